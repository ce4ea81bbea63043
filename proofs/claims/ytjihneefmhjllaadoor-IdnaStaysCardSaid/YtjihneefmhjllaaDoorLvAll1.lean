/- A value semantics of the loaded code, its soundness, and walks through functions over it. -/
import Derived.Test.YtjihneefmhjllaaDoorLvAll0
import Derived.Deep.MidRow
import Derived.Deep.AppendSrc
import Derived.MapKept
import Derived.Lib.ItoaNum
import Derived.Lib.LaidTab
set_option linter.unusedVariables false
set_option linter.unusedSimpArgs false
namespace Go.Lv

/-- What stands in memory for good, and how many cells a row that may be written has at least. -/
structure Facts where
  get : Nat → Nat → Option Value
  room : Nat → Nat
instance : CoeFun Facts (fun _ => Nat → Nat → Option Value) := ⟨Facts.get⟩

inductive Rel (F : Facts) (L : List Nat) : AV → Value → Prop
  | un (v : Value) : Rel F L .un v
  | sc (x : Value) (h : x.oneCell' = true) : Rel F L (.v x) x
  | sl0 (a : Option Addr) (cap : Nat) (h : a = none → cap = 0) : Rel F L (.sl []) (.slice a 0 cap)
  | sl (xs : List AV) (B o len cap sz : Nat) (vals : Nat → Nat → Value) (hl : xs.length = len) (h0 : 0 < len) (hc : len ≤ cap) (hs : 0 < sz)
      (hn : ∀ (i : Nat) (e : AV), xs[i]? = some e → e.cells.length = sz)
      (hf : ∀ i k, i < len → k < sz → F B (o + i * sz + k) = some (vals i k))
      (hr : ∀ (i : Nat) (e : AV) (k : Nat) (c : AV), xs[i]? = some e → e.cells[k]? = some c → Rel F L c (vals i k)) : Rel F L (.sl xs) (.slice (some ⟨B, o, none⟩) len cap)
  | agg (xs : List AV) (arr : List Value) (hl : arr.length = xs.length) (hr : ∀ (k : Nat) (c : AV), xs[k]? = some c → Rel F L c (arr.getD k undef)) : Rel F L (.agg xs) (.agg arr.toArray)
  | tup (xs : List AV) (arr : List Value) (hl : arr.length = xs.length) (hr : ∀ (k : Nat) (c : AV), xs[k]? = some c → Rel F L c (arr.getD k undef)) : Rel F L (.tup xs) (.tuple arr.toArray)
  | fn (f : FuncId) (xs : List AV) (arr : List Value) (hl : arr.length = xs.length) (hr : ∀ (k : Nat) (c : AV), xs[k]? = some c → Rel F L c (arr.getD k undef)) : Rel F L (.fn f xs) (.func (.func f) #[] arr.toArray)
  | ptr (j off B : Nat) (h : L[j]? = some B) : Rel F L (.ptr j off) (.pointer (some ⟨B, off, none⟩))
  | ea (e : AV) (off B a : Nat) (vals : Nat → Value)
      (hf : ∀ k, k < e.cells.length → F B (a + k) = some (vals k))
      (hr : ∀ (k : Nat) (c : AV), e.cells[k]? = some c → Rel F L c (vals k)) : Rel F L (.ea e off) (.pointer (some ⟨B, a + off, none⟩))
  | mr (j off len n cap B : Nat) (g : Bool) (h : L[j]? = some B) (hc : len ≤ cap) (hn : 0 < n) (hr : off + cap * n ≤ F.room B) (hx : cap ≤ 9223372036854775807) : Rel F L (.mr j off len n g) (.slice (some ⟨B, off, none⟩) len cap)
  | ow (xs : List AV) (j B len cap sz : Nat) (vals : Nat → Nat → Value) (h : L[j]? = some B) (hl : xs.length = len) (h0 : 0 < len) (hc : len ≤ cap) (hs : 0 < sz)
      (hn : ∀ (i : Nat) (e : AV), xs[i]? = some e → e.cells.length = sz)
      (hf : ∀ i k, i < len → k < sz → F B (i * sz + k) = some (vals i k))
      (hr : ∀ (i : Nat) (e : AV) (k : Nat) (c : AV), xs[i]? = some e → e.cells[k]? = some c → Rel F L c (vals i k))
      (hm : cap * sz ≤ F.room B) (hx : cap ≤ 9223372036854775807) : Rel F L (.ow xs j) (.slice (some ⟨B, 0, none⟩) len cap)
  | mp (j B : Nat) (h : L[j]? = some B) : Rel F L (.mp j) (.map (some B))
  | tk (lo : Nat) (v : Value) : Rel F L (.tk lo) v
  | mv (ks vs : List AV) (v : Value) : Rel F L (.mv ks vs) v

theorem Rel.mono {F F' : Facts} {L L' : List Nat} (hF : ∀ B i v, F B i = some v → F' B i = some v) (hR : ∀ B, F.room B ≤ F'.room B) (hL : ∀ (j B : Nat), L[j]? = some B → L'[j]? = some B) {a : AV} {v : Value} (h : Rel F L a v) : Rel F' L' a v := by
  induction h with
  | un v => exact .un v
  | sc x h => exact .sc x h
  | sl0 a cap h => exact .sl0 a cap h
  | sl xs B o len cap sz vals hl h0 hc hs hn hf hr ih => exact .sl xs B o len cap sz vals hl h0 hc hs hn (fun i k hi hk => hF _ _ _ (hf i k hi hk)) ih
  | agg xs arr hl hr ih => exact .agg xs arr hl ih
  | tup xs arr hl hr ih => exact .tup xs arr hl ih
  | fn f xs arr hl hr ih => exact .fn f xs arr hl ih
  | ptr j off B h => exact .ptr j off B (hL _ _ h)
  | ea e off B a vals hf hr ih => exact .ea e off B a vals (fun k hk => hF _ _ _ (hf k hk)) ih
  | mr j off len n cap B g h hc hn hr hx => exact .mr j off len n cap B g (hL _ _ h) hc hn (Nat.le_trans hr (hR B)) hx
  | ow xs j B len cap sz vals h hl h0 hc hs hn hf hr hm hx ih => exact .ow xs j B len cap sz vals (hL _ _ h) hl h0 hc hs hn (fun i k hi hk => hF _ _ _ (hf i k hi hk)) ih (Nat.le_trans hm (hR B)) hx
  | mp j B h => exact .mp j B (hL _ _ h)
  | tk lo v => exact .tk lo v
  | mv ks vs v => exact .mv ks vs v

/-- A slice with a mark is a slice. -/
theorem Rel.owA {F : Facts} {L : List Nat} {a : AV} {v : Value} (h : Rel F L a v) : Rel F L (Lv.owA a) v := by
  cases h with
  | ow xs j B len cap sz vals h hl h0 hc hs hn hf hr hm hx =>
    exact .sl xs B 0 len cap sz vals hl h0 hc hs hn (fun i k hi hk => by rw [Nat.zero_add]; exact hf i k hi hk) hr
  | un v => exact .un _
  | sc x h => exact .sc v h
  | sl0 a cap h => exact .sl0 a cap h
  | sl xs B o len cap sz vals hl h0 hc hs hn hf hr => exact .sl xs B o len cap sz vals hl h0 hc hs hn hf hr
  | agg xs arr hl hr => exact .agg xs arr hl hr
  | tup xs arr hl hr => exact .tup xs arr hl hr
  | fn f xs arr hl hr => exact .fn f xs arr hl hr
  | ptr j off B h => exact .ptr j off B h
  | ea e off B a vals hf hr => exact .ea e off B a vals hf hr
  | mr j off len n cap B g h hc hn hr hx => exact .mr j off len n cap B g h hc hn hr hx
  | mp j B h => exact .mp j B h
  | tk lo v => exact .tk lo _
  | mv ks vs v => exact .mv ks vs _
theorem Rel.plainA {F : Facts} {L : List Nat} {a : AV} {v : Value} (h : Rel F L a v) : Rel F L (Lv.plainA a) v := by
  cases a with
  | v y =>
    show Rel F L (if isNilV y = true then .sl [] else .v y) v
    split
    · rename_i hx
      have := isNilV_spec hx
      subst this
      cases h
      exact .sl0 none 0 (fun _ => rfl)
    · exact h
  | ow xs j => exact h.owA
  | _ => exact h

theorem Rel.one {F : Facts} {L : List Nat} {a : AV} {v : Value} (h : Rel F L a v) (h1 : a.one = true) : v.oneCell' = true := by
  cases h <;> simp_all [AV.one, Value.oneCell']

theorem cells_one {v : Value} (h : v.oneCell' = true) : v.cells = #[v] := by
  cases v <;> simp_all [Value.oneCell', Value.cells]

/-- A value's cells, one by one. -/
theorem Rel.cells {F : Facts} {L : List Nat} {a : AV} {v : Value} (h : Rel F L a v) (h1 : a ≠ .un) (h2 : ∀ lo, a ≠ .tk lo := by intro; simp) (h3 : ∀ ks vs, a ≠ .mv ks vs := by intro; simp) : v.cells.size = a.cells.length ∧ ∀ (k : Nat) (c : AV), a.cells[k]? = some c → Rel F L c (v.cells.toList.getD k undef) := by
  have one : ∀ (a : AV) (v : Value), Rel F L a v → a.cells = [a] → v.cells = #[v] → v.cells.size = a.cells.length ∧ ∀ (k : Nat) (c : AV), a.cells[k]? = some c → Rel F L c (v.cells.toList.getD k undef) := by
    intro a v h ha hv
    rw [ha, hv]
    refine ⟨rfl, fun k c hk => ?_⟩
    cases k with
    | zero => simp at hk; subst hk; simpa using h
    | succ k => simp at hk
  cases h with
  | un v => exact absurd rfl h1
  | sc x h => exact one _ _ (.sc v h) rfl (cells_one h)
  | sl0 a cap h => exact one _ _ (.sl0 a cap h) rfl rfl
  | sl xs B o len cap sz vals hl h0 hc hs hn hf hr => exact one _ _ (.sl xs B o len cap sz vals hl h0 hc hs hn hf hr) rfl rfl
  | agg xs arr hl hr => exact ⟨by simp [Value.cells, AV.cells, hl], fun k c hk => by simpa [Value.cells] using hr k c (by simpa [AV.cells] using hk)⟩
  | tup xs arr hl hr => exact one _ _ (.tup xs arr hl hr) rfl rfl
  | fn f xs arr hl hr => exact one _ _ (.fn f xs arr hl hr) rfl rfl
  | ptr j off B h => exact one _ _ (.ptr j off B h) rfl rfl
  | ea e off B a vals hf hr => exact one _ _ (.ea e off B a vals hf hr) rfl rfl
  | mr j off len n cap B g h hc hn hr hx => exact one _ _ (.mr j off len n cap B g h hc hn hr hx) rfl rfl
  | ow xs j B len cap sz vals h hl h0 hc hs hn hf hr hm hx => exact one _ _ (.ow xs j B len cap sz vals h hl h0 hc hs hn hf hr hm hx) rfl rfl
  | mp j B h => exact one _ _ (.mp j B h) rfl rfl
  | tk lo v => exact absurd rfl (h2 lo)
  | mv ks vs v => exact absurd rfl (h3 ks vs)

theorem Rel.cellsOne {F : Facts} {L : List Nat} {a : AV} {v : Value} (h : Rel F L a v) (h1 : a.cells.all AV.one = true) : v.cells.size = a.cells.length ∧ ∀ (k : Nat) (c : AV), a.cells[k]? = some c → Rel F L c (v.cells.toList.getD k undef) :=
  h.cells (by rintro rfl; simp [AV.cells, AV.one] at h1) (by rintro lo rfl; simp [AV.cells, AV.one] at h1) (by rintro ks vs rfl; simp [AV.cells, AV.one] at h1)

theorem not_un_of_one {a : AV} (h : a.cells.all AV.one = true) (hl : 0 < a.cells.length) : a ≠ .un := by
  intro he
  subst he
  simp [AV.cells, AV.one] at h

theorem lit1_rel (F : Facts) (L : List Nat) (x : Value) : Rel F L (lit1 x) x := by
  cases x with
  | slice a len cap =>
    unfold lit1
    split
    · rename_i h; injection h with h1 h2 h3; subst h1 h2 h3; exact .sl0 none 0 (fun _ => rfl)
    · exact .un _
    · exact .un _
    · exact .un _
    · rename_i h1 h2 h3 h4; exact absurd rfl (h2 a len cap)
  | tuple _ => exact .un _
  | agg _ => exact .un _
  | _ => exact .sc _ rfl

theorem lit_rel (F : Facts) (L : List Nat) (x : Value) : Rel F L (lit x) x := by
  cases x with
  | agg cs =>
    have h : Rel F L (.agg (cs.toList.map lit1)) (.agg cs.toList.toArray) := by
      refine .agg _ _ (by simp) (fun k c hk => ?_)
      rw [List.getElem?_map] at hk
      obtain ⟨x, hx, rfl⟩ := Option.map_eq_some_iff.1 hk
      rw [List.getD_eq_getElem?_getD, hx]
      exact lit1_rel F L x
    simpa [lit] using h
  | _ => (unfold lit; exact lit1_rel F L _)

theorem litX1_rel (F : Facts) (L : List Nat) (x : Value) : Rel F L (litX1 x) x := by
  unfold litX1
  split
  · exact .sc _ rfl
  · exact lit1_rel F L x
theorem litX_rel (F : Facts) (L : List Nat) (x : Value) : Rel F L (litX x) x := by
  cases x with
  | agg cs =>
    have h : Rel F L (.agg (cs.toList.map litX1)) (.agg cs.toList.toArray) := by
      refine .agg _ _ (by simp) (fun k c hk => ?_)
      rw [List.getElem?_map] at hk
      obtain ⟨x, hx, rfl⟩ := Option.map_eq_some_iff.1 hk
      rw [List.getD_eq_getElem?_getD, hx]
      exact litX1_rel F L x
    simpa [litX] using h
  | _ => (unfold litX; exact litX1_rel F L _)
theorem evX_rel {F : Facts} {L : List Nat} {e : Env} {ρ : Operand → Value} (hT : ∀ x, Rel F L (ev e x) (ρ x)) (hc : ∀ v, ρ (.const v) = v) (x : Operand) : Rel F L (evX e x) (ρ x) := by
  cases x with
  | const v => rw [hc]; exact litX_rel F L v
  | tmp t => exact hT (.tmp t)
  | global g => exact hT (.global g)
  | func f => exact hT (.func f)

/-! ### The world -/
/-- A map, as it stands. -/
def MapAt (F : Facts) (L : List Nat) (w : World) (B : Nat) (ks vs : List AV) : Prop :=
  ∃ (es fs : List MapEntry) (clk : Nat), w.heap[B]? = some (.map es.toArray clk) ∧ MapKept.Stamped es.toArray clk ∧ fs.Perm es ∧ ks.length = fs.length ∧ vs.length = fs.length ∧
    (∀ (i : Nat) k, ks[i]? = some k → ∃ e, fs[i]? = some e ∧ Rel F L k e.key) ∧ ∀ (i : Nat) v, vs[i]? = some v → ∃ e, fs[i]? = some e ∧ Rel F L v e.val

/-- A block's cells; what is frozen of it, if anything, lies behind them. -/
def Holds (w : World) (B : Nat) (arr : List Value) (t : TypeId) : Prop := ∃ fr : Nat × Nat, w.heap[B]? = some (.cells arr.toArray t fr) ∧ (arr.length ≤ fr.1 ∨ fr = (0, 0))
theorem Holds.same {w w' : World} {B : Nat} {arr : List Value} {t : TypeId} (h : Holds w B arr t) (he : w'.heap[B]? = w.heap[B]?) : Holds w' B arr t := by
  obtain ⟨fr, h1, h2⟩ := h
  exact ⟨fr, by rw [he]; exact h1, h2⟩
theorem Holds.new {w : World} {B : Nat} {arr : List Value} {t : TypeId} (h : w.heap[B]? = some (.cells arr.toArray t (0, 0))) : Holds w B arr t := ⟨_, h, .inr rfl⟩
theorem Holds.cell {w : World} {B i : Nat} {arr : List Value} {t : TypeId} (h : Holds w B arr t) : w.cell? ⟨B, i, none⟩ = arr[i]? := by
  obtain ⟨fr, h1, _⟩ := h
  simp [World.cell?, h1]
theorem Holds.soft {w : World} {B i : Nat} {arr : List Value} {t : TypeId} (h : Holds w B arr t) (hi : i < arr.length) : w.frozen? ⟨B, i, none⟩ = false := by
  obtain ⟨⟨lo, hi'⟩, h1, h2⟩ := h
  simp only [World.frozen?, h1, Bool.and_eq_false_iff, decide_eq_false_iff_not]
  rcases h2 with h2 | h2
  · left; simp only at h2; omega
  · right; injection h2 with h3 h4; omega
theorem Holds.inj {w : World} {B : Nat} {arr arr' : List Value} {t t' : TypeId} (h : Holds w B arr t) (h' : Holds w B arr' t') : arr = arr' := by
  obtain ⟨fr, h1, _⟩ := h
  obtain ⟨fr', h2, _⟩ := h'
  rw [h1] at h2
  injection h2 with h2; injection h2 with h2
  simpa using h2

structure St (P : Program) (F : Facts) (L : List Nat) (X : Nat → Prop) (w : World) (H : Heap) : Prop where
  mem : ∀ B i v, F B i = some v → w.cell? ⟨B, i, none⟩ = some v ∧ v.oneCell' = true
  len : L.length = H.length
  obj : ∀ (j : Nat) cs B, H[j]? = some cs → cs ≠ [] → isMv cs = false → L[j]? = some B → ∃ (arr : List Value) (t : TypeId), Holds w B arr t ∧ cs.length ≤ arr.length ∧ F.room B ≤ arr.length ∧ ∀ (k : Nat) c, cs[k]? = some c → Rel F L c (arr.getD k undef)
  lt : ∀ B ∈ L, B < w.heap.size
  nof : ∀ (j : Nat) cs B, H[j]? = some cs → cs ≠ [] → L[j]? = some B → ∀ i, tkLo cs ≤ i → F B i = none
  nox : ∀ B ∈ L, ¬ X B
  inj : ∀ (i j : Nat) cs ds B, H[i]? = some cs → cs ≠ [] → H[j]? = some ds → ds ≠ [] → L[i]? = some B → L[j]? = some B → i = j
  xlt : ∀ B, X B → B < w.heap.size
  room0 : ∀ B, w.heap.size ≤ B → F.room B = 0
  mob : ∀ (j : Nat) ks vs B, H[j]? = some [.mv ks vs] → L[j]? = some B → MapAt F L w B ks vs

/-! ### Package-level variables of the library's that calls read -/
def globNames : List String := ["internal/bytealg.MaxLen", "internal/strconv.uint64pow10"]
def globIx (P : Program) (g : Nat) : Prop := ∃ n ∈ globNames, P.globalNamed n = some g
structure GlobOK (P : Program) (w : World) : Prop where
  maxLen : ∀ g, P.globalNamed "internal/bytealg.MaxLen" = some g → ∃ m, w.cell? ⟨g, 0, none⟩ = some (.int .i64 m)
  pow10 : (P.globalNamed "internal/strconv.uint64pow10").isSome = true → Lib.TabIs P w "internal/strconv.uint64pow10" .u64 Lib.pow10Tab
theorem GlobOK.same {P : Program} {w w' : World} (h : GlobOK P w) (he : ∀ g, globIx P g → w'.heap[g]? = w.heap[g]?) : GlobOK P w' := by
  refine ⟨fun g hg => ?_, fun hp => ?_⟩
  · have := h.maxLen g hg
    unfold World.cell? at this ⊢
    simp only [he g ⟨_, by simp [globNames], hg⟩]
    exact this
  · have h1 := h.pow10 hp
    obtain ⟨g, hg⟩ := Option.isSome_iff_exists.1 hp
    unfold Lib.TabIs World.var? at h1 ⊢
    rw [hg] at h1 ⊢
    simp only [Option.bind_some] at h1 ⊢
    rw [he g ⟨_, by simp [globNames], hg⟩]
    exact h1
theorem GlobOK.lt {P : Program} {w : World} (h : GlobOK P w) : ∀ g, globIx P g → g < w.heap.size := by
  rintro g ⟨n, hn, hg⟩
  have key : ∀ {o : Obj}, w.heap[g]? = some o → g < w.heap.size := fun ho => (Array.getElem?_eq_some_iff.1 ho).1
  simp only [globNames, List.mem_cons, List.not_mem_nil, or_false] at hn
  rcases hn with rfl | rfl
  · obtain ⟨m, hm⟩ := h.maxLen g hg
    unfold World.cell? at hm
    simp only at hm
    split at hm
    · rename_i ho; exact key ho
    · cases hm
  · have ht := h.pow10 (by rw [hg]; rfl)
    unfold Lib.TabIs World.var? at ht
    rw [hg] at ht
    simp only [Option.bind_some] at ht
    split at ht
    · rename_i ho; exact key ho
    · cases ht
/-- They stand in w, and nobody that L or G names may write them. -/
structure GlobAt (P : Program) (L : List Nat) (G : Nat → Prop) (w : World) : Prop where
  ok : GlobOK P w
  at_ : ∀ g, globIx P g → g < w.heap.size ∧ g ∉ L ∧ ¬ G g
theorem GlobAt.none {P : Program} (h : (globNames.all fun n => (P.globalNamed n).isNone) = true) (L : List Nat) (G : Nat → Prop) (w : World) : GlobAt P L G w := by
  have hn : ∀ n ∈ globNames, P.globalNamed n = .none := fun n hn => by
    have := List.all_eq_true.1 h n hn
    simpa using this
  refine ⟨⟨fun g hg => ?_, fun hp => ?_⟩, fun g hg => ?_⟩
  · rw [hn _ (by simp [globNames])] at hg; cases hg
  · rw [hn _ (by simp [globNames])] at hp; cases hp
  · obtain ⟨n, h1, h2⟩ := hg
    rw [hn n h1] at h2; cases h2

/-- What becomes of memory: G: rows that may be written. -/
structure Goes (G : Nat → Prop) (F : Facts) (L : List Nat) (w : World) (F' : Facts) (L' : List Nat) (w' : World) : Prop where
  size : w.heap.size ≤ w'.heap.size
  keep : ∀ B, B < w.heap.size → ¬ G B → B ∉ L → w'.heap[B]? = w.heap[B]? ∧ ∀ i, F' B i = F B i
  mono : ∀ B i v, F B i = some v → F' B i = some v
  pre : ∀ (j B : Nat), L[j]? = some B → L'[j]? = some B
  newL : ∀ B ∈ L', B ∈ L ∨ w.heap.size ≤ B
  rest : w'.os = w.os ∧ w'.tape = w.tape ∧ w'.output = w.output
  room : ∀ B, F.room B ≤ F'.room B

theorem mem_of_get {L : List Nat} {j B : Nat} (h : L[j]? = some B) : B ∈ L := List.mem_of_getElem? h

theorem Goes.refl (G : Nat → Prop) (F : Facts) (L : List Nat) (w : World) : Goes G F L w F L w :=
  ⟨Nat.le_refl _, fun _ _ _ _ => ⟨rfl, fun _ => rfl⟩, fun _ _ _ h => h, fun _ _ h => h, fun _ h => .inl h, ⟨rfl, rfl, rfl⟩, fun _ => Nat.le_refl _⟩

theorem Goes.trans {G G' : Nat → Prop} {F F1 F2 : Facts} {L L1 L2 : List Nat} {w w1 w2 : World} (h : Goes G F L w F1 L1 w1) (h' : Goes G' F1 L1 w1 F2 L2 w2) : Goes (fun B => G B ∨ G' B) F L w F2 L2 w2 := by
  refine ⟨Nat.le_trans h.size h'.size, fun B hB hg hL => ?_, fun B i v hv => h'.mono _ _ _ (h.mono _ _ _ hv), fun j B hj => h'.pre _ _ (h.pre _ _ hj), fun B hB => ?_, ⟨h'.rest.1.trans h.rest.1, h'.rest.2.1.trans h.rest.2.1, h'.rest.2.2.trans h.rest.2.2⟩, fun B => Nat.le_trans (h.room B) (h'.room B)⟩
  · obtain ⟨a, b⟩ := h.keep B hB (fun g => hg (.inl g)) hL
    have hL1 : B ∉ L1 := fun hm => by
      rcases h.newL B hm with h1 | h1
      · exact hL h1
      · omega
    obtain ⟨c, d⟩ := h'.keep B (by have := h.size; omega) (fun g => hg (.inr g)) hL1
    exact ⟨c.trans a, fun i => (d i).trans (b i)⟩
  · rcases h'.newL B hB with h1 | h1
    · exact h.newL B h1
    · exact .inr (by have := h.size; omega)

theorem Goes.weaken {G G' : Nat → Prop} {F F' : Facts} {L L' : List Nat} {w w' : World} (h : Goes G F L w F' L' w') (hG : ∀ B, B < w.heap.size → G B → G' B) : Goes G' F L w F' L' w' :=
  ⟨h.size, fun B hB hg hL => h.keep B hB (fun g => hg (hG B hB g)) hL, h.mono, h.pre, h.newL, h.rest, h.room⟩

theorem MapAt.goes {G : Nat → Prop} {F F' : Facts} {L L' : List Nat} {w w' : World} {B : Nat} {ks vs : List AV} (h : MapAt F L w B ks vs) (hg : Goes G F L w F' L' w') (hB : w'.heap[B]? = w.heap[B]?) : MapAt F' L' w' B ks vs := by
  obtain ⟨es, fs, clk, h1, hst, hpm, h2, h3, h4, h5⟩ := h
  refine ⟨es, fs, clk, by rw [hB]; exact h1, hst, hpm, h2, h3, fun i k hk => ?_, fun i v hv => ?_⟩
  · obtain ⟨e, he, hr⟩ := h4 i k hk
    exact ⟨e, he, hr.mono hg.mono hg.room hg.pre⟩
  · obtain ⟨e, he, hr⟩ := h5 i v hv
    exact ⟨e, he, hr.mono hg.mono hg.room hg.pre⟩
theorem Rel.goes {G : Nat → Prop} {F F' : Facts} {L L' : List Nat} {w w' : World} (hg : Goes G F L w F' L' w') {a : AV} {v : Value} (h : Rel F L a v) : Rel F' L' a v := h.mono hg.mono hg.room hg.pre

theorem GlobAt.goes {P : Program} {G : Nat → Prop} {F F' : Facts} {L L' : List Nat} {w w' : World} (h : GlobAt P L G w) (hg : Goes G F L w F' L' w') : GlobAt P L' G w' := by
  refine ⟨h.ok.same fun g hi => ?_, fun g hi => ?_⟩
  · obtain ⟨h1, h2, h3⟩ := h.at_ g hi
    exact (hg.keep g h1 h3 h2).1
  · obtain ⟨h1, h2, h3⟩ := h.at_ g hi
    refine ⟨Nat.lt_of_lt_of_le h1 hg.size, fun hm => ?_, h3⟩
    rcases hg.newL g hm with h | h
    · exact h2 h
    · omega
theorem GlobAt.weaken {P : Program} {G G' : Nat → Prop} {L L' : List Nat} {w : World} (h : GlobAt P L G w) (hL : ∀ B ∈ L', B ∈ L) (hG : ∀ B, B < w.heap.size → G' B → G B) : GlobAt P L' G' w :=
  ⟨h.ok, fun g hi => ⟨(h.at_ g hi).1, fun hm => (h.at_ g hi).2.1 (hL g hm), fun hg => (h.at_ g hi).2.2 (hG g (h.at_ g hi).1 hg)⟩⟩

/-- A row that may grow: nobody else sees what lies behind it. -/
def Own (F : Facts) (L : List Nat) (X : Nat → Prop) (w : World) (sz : Nat) (v : Value) : Prop :=
  ∀ (a : Addr) (len cap : Nat), v = .slice (some a) len cap → a.spot = none ∧ len ≤ cap ∧ ¬ X a.block ∧ a.block ∉ L ∧ a.block < w.heap.size ∧ (∀ i, a.off + len * sz ≤ i → F a.block i = none) ∧
    (∀ i, i < (cap - len) * sz → (w.cell? ⟨a.block, a.off + len * sz + i, none⟩).isSome = true ∧ w.frozen? ⟨a.block, a.off + len * sz + i, none⟩ = false) ∧
    ∃ (arr : List Value) (t : TypeId), w.heap[a.block]? = some (.cells arr.toArray t (0, 0))

theorem Own.goes {G : Nat → Prop} {F F' : Facts} {L L' : List Nat} {X : Nat → Prop} {w w' : World} {sz : Nat} {v : Value} (h : Own F L X w sz v) (hg : Goes G F L w F' L' w') (hv : ∀ B, v.ownBlock = some B → ¬ G B) : Own F' L' X w' sz v := by
  rintro ⟨B, o, sp⟩ len cap rfl
  obtain ⟨h1, h2, h3, h4, h5, h6, h7, h8⟩ := h _ _ _ rfl
  simp only at h1 h2 h3 h4 h5 h6 h7 h8 ⊢
  obtain ⟨k1, k2⟩ := hg.keep B h5 (hv B rfl) h4
  refine ⟨h1, h2, h3, fun hm => ?_, Nat.lt_of_lt_of_le h5 hg.size, fun i hi => (k2 i).trans (h6 i hi), fun i hi => ?_, by rw [k1]; exact h8⟩
  · rcases hg.newL B hm with h | h
    · exact h4 h
    · omega
  · simpa [World.cell?, World.frozen?, k1] using h7 i hi

end Go.Lv
set_option linter.unusedVariables false
set_option linter.unusedSimpArgs false
namespace Go.Lv
section
variable {P : Program} {F : Facts} {L : List Nat} {w : World}

theorem Rel.v_eq {x y : Value} (h : Rel F L (.v x) y) : x = y ∧ y.oneCell' = true := by cases h; exact ⟨rfl, by assumption⟩

theorem run_eqGuard_sc (op : BinOp) (xt : TypeId) (x y : Operand) (a b : Value) (h1 : ∀ c, a ≠ .agg c) (h2 : a ≠ .nilIface) : (eqGuard op xt x y a b).run P w = .ok () w := by
  unfold eqGuard
  cases op <;> simp <;> (cases a <;> simp_all)

theorem equal_bool {t : TypeId} (d : Nat) (a b : Bool) (hu : P.underlying t = some .bool) : (Op.equalIn (d + 1) t (.bool a) (.bool b)).run P w = .ok (a == b) w := by
  simp [Op.equalIn, run_underlying hu]
theorem equal_ptr_nil {t e : TypeId} (d : Nat) (a : Addr) (hu : P.underlying t = some (.pointer e)) : (Op.equalIn (d + 1) t (.pointer (some a)) (.pointer none)).run P w = .ok false w := by
  simp [Op.equalIn, run_underlying hu]
theorem equal_nil_nil {t e : TypeId} (d : Nat) (hu : P.underlying t = some (.pointer e)) : (Op.equalIn (d + 1) t (.pointer none) (.pointer none)).run P w = .ok true w := by
  simp [Op.equalIn, run_underlying hu]
theorem binOp_eql {xt : TypeId} {x y : Value} {t : Bool} (h1 : ∀ k n, x ≠ .int k n) (h2 : ∀ s, x ≠ .string s) (h3 : ∀ k n, x ≠ .float k n) (h4 : ∀ k n m, x ≠ .complex k n m)
    (h : (Op.equalIn (9999 + 1) xt x y).run P w = .ok t w) : (binOp .eql xt x y).run P w = .ok (.bool t) w ∧ (binOp .neq xt x y).run P w = .ok (.bool !t) w := by
  have h' : (Op.equal xt x y).run P w = .ok t w := h
  cases x <;> simp_all [binOp]
theorem wf_bool (t : Bool) : Rel F L (.b t) (.bool t) := .sc _ rfl
theorem bin_run {op : BinOp} {xt : TypeId} {xo yo : Operand} {a b r : AV} {x y : Value} (h : bin P op xt a b = some r) (ha : Rel F L a x) (hb : Rel F L b y) :
    ∃ v, (do eqGuard op xt xo yo x y; binOp op xt x y : Sem Value).run P w = .ok v w ∧ Rel F L r v := by
  unfold bin at h
  split at h
  · rename_i k x' k' y'
    obtain ⟨rfl, _⟩ := ha.v_eq
    obtain ⟨rfl, _⟩ := hb.v_eq
    rw [Sem.run_bind, run_eqGuard_sc _ _ _ _ _ _ (by simp) (by simp)]
    simp only [Result.andThen_ok]
    split at h
    · split at h
      · cases h
      · rename_i hy
        injection h with h; subst h
        exact ⟨_, by simp [binOp, Op.shift, hy], .sc _ rfl⟩
    · split at h
      · cases h
      · rename_i hy
        injection h with h; subst h
        exact ⟨_, by simp [binOp, Op.shift, hy], .sc _ rfl⟩
    · split at h
      · rename_i hk; subst hk
        obtain ⟨v, hv, rfl⟩ := Option.map_eq_some_iff.1 h
        refine ⟨v, ?_, ?_⟩
        · cases op <;> simp only [binI] at hv <;>
            first
            | (injection hv with hv; subst hv; simp [binOp, Op.intArith, Op.intBits, Op.intCmp]; done)
            | (injection hv with hv; subst hv; simp [binOp, Op.intArith, Op.intBits, Op.intCmp]; rfl)
            | (split at hv; cases hv; rename_i hy; injection hv with hv; subst hv; simp [binOp, Op.intDiv, hy]; done)
            | (cases hv; done)
            | simp_all
        · cases op <;> simp only [binI] at hv <;>
            first
            | (injection hv with hv; subst hv; exact .sc _ rfl)
            | (split at hv; cases hv; injection hv with hv; subst hv; exact .sc _ rfl)
            | (cases hv; done)
      · cases h
  · rename_i x' y'
    obtain ⟨rfl, _⟩ := ha.v_eq
    obtain ⟨rfl, _⟩ := hb.v_eq
    rw [Sem.run_bind, run_eqGuard_sc _ _ _ _ _ _ (by simp) (by simp)]
    simp only [Result.andThen_ok]
    obtain ⟨v, hv, rfl⟩ := Option.map_eq_some_iff.1 h
    refine ⟨v, ?_, ?_⟩
    · cases op <;> simp only [binS] at hv <;>
        first
        | (injection hv with hv; subst hv; simp [binOp, Op.stringOp]; done)
        | (split at hv
           · rename_i hle
             injection hv with hv; subst hv
             have hm : IntKind.i64.max = 9223372036854775807 := by decide +kernel
             simp only [binOp, Op.stringOp, hm]
             rw [if_neg (by omega)]
             rfl
           · cases hv)
        | (cases hv; done)
    · cases op <;> simp only [binS] at hv <;>
        first
        | (injection hv with hv; subst hv; exact .sc _ rfl)
        | (split at hv
           · injection hv with hv; subst hv; exact .sc _ rfl
           · cases hv)
        | (cases hv; done)
  · rename_i x' y'
    obtain ⟨rfl, _⟩ := ha.v_eq
    obtain ⟨rfl, _⟩ := hb.v_eq
    rw [Sem.run_bind, run_eqGuard_sc _ _ _ _ _ _ (by simp) (by simp)]
    simp only [Result.andThen_ok]
    have e := fun t => binOp_eql (P := P) (w := w) (xt := xt) (x := .bool x') (y := .bool y') (t := t) (by simp) (by simp) (by simp) (by simp)
    split at h
    · rename_i hu
      injection h with h; subst h
      exact ⟨_, (e _ (equal_bool _ _ _ hu)).1, wf_bool _⟩
    · rename_i hu
      injection h with h; subst h
      exact ⟨_, (e _ (equal_bool _ _ _ hu)).2, wf_bool _⟩
    · cases h
  · cases ha
    rename_i B hB
    obtain ⟨rfl, _⟩ := hb.v_eq
    rw [Sem.run_bind, run_eqGuard_sc _ _ _ _ _ _ (by simp) (by simp)]
    simp only [Result.andThen_ok]
    split at h
    · rename_i hu
      injection h with h; subst h
      exact ⟨_, (binOp_eql (by simp) (by simp) (by simp) (by simp) (equal_ptr_nil _ _ hu)).1, wf_bool _⟩
    · rename_i hu
      injection h with h; subst h
      exact ⟨_, (binOp_eql (by simp) (by simp) (by simp) (by simp) (equal_ptr_nil _ _ hu)).2, wf_bool _⟩
    · cases h
  · obtain ⟨rfl, _⟩ := ha.v_eq
    obtain ⟨rfl, _⟩ := hb.v_eq
    rw [Sem.run_bind, run_eqGuard_sc _ _ _ _ _ _ (by simp) (by simp)]
    simp only [Result.andThen_ok]
    split at h
    · rename_i hu
      injection h with h; subst h
      exact ⟨_, (binOp_eql (by simp) (by simp) (by simp) (by simp) (equal_nil_nil _ hu)).1, wf_bool _⟩
    · rename_i hu
      injection h with h; subst h
      exact ⟨_, (binOp_eql (by simp) (by simp) (by simp) (by simp) (equal_nil_nil _ hu)).2, wf_bool _⟩
    · cases h
  · cases h

theorem un1_run {op : UnOp} {a r : AV} {x : Value} (h : un1 op a = some r) (ha : Rel F L a x) : ∃ v, (Op.unary op x).run P w = .ok v w ∧ Rel F L r v := by
  unfold un1 at h
  split at h
  · obtain ⟨rfl, _⟩ := ha.v_eq
    injection h with h; subst h
    exact ⟨_, by simp [Op.unary, Op.intArith], .sc _ rfl⟩
  · obtain ⟨rfl, _⟩ := ha.v_eq
    obtain ⟨v, hv, rfl⟩ := Option.map_eq_some_iff.1 h
    simp only [binI] at hv
    injection hv with hv; subst hv
    exact ⟨_, by simp [Op.unary, Op.intBits], .sc _ rfl⟩
  · obtain ⟨rfl, _⟩ := ha.v_eq
    injection h with h; subst h
    exact ⟨_, by simp [Op.unary], .sc _ rfl⟩
  · cases h

/-! ### New memory -/
def addF (F : Facts) (B : Nat) (vs : List Value) : Facts := ⟨fun b i => if b = B then vs[i]? else F b i, F.room⟩
theorem addF_get {F : Facts} {B : Nat} {vs : List Value} {b i : Nat} : addF F B vs b i = if b = B then vs[i]? else F b i := rfl

theorem St.ltF {X : Nat → Prop} {H : Heap} (hS : St P F L X w H) {B i : Nat} {v : Value} (h : F B i = some v) : B < w.heap.size := by
  have := (hS.mem _ _ _ h).1
  exact World.block_lt_of_cell? w ⟨B, i, none⟩ this

theorem St.ltL {X : Nat → Prop} {H : Heap} (hS : St P F L X w H) {B : Nat} (h : B ∈ L) : B < w.heap.size := hS.lt B h

theorem cell?_eq {w : World} {B i : Nat} {arr : List Value} {t : TypeId} {fr : Nat × Nat} (h : w.heap[B]? = some (.cells arr.toArray t fr)) : w.cell? ⟨B, i, none⟩ = arr[i]? := by
  simp [World.cell?, h]

theorem cell?_same {w w' : World} {B i : Nat} (h : w'.heap[B]? = w.heap[B]?) : w'.cell? ⟨B, i, none⟩ = w.cell? ⟨B, i, none⟩ := by
  simp [World.cell?, h]

structure Grew (w w' : World) (arr : List Value) (t : TypeId) (fr : Nat × Nat) : Prop where
  size : w'.heap.size = w.heap.size + 1
  old : ∀ B, B < w.heap.size → w'.heap[B]? = w.heap[B]?
  new : w'.heap[w.heap.size]? = some (.cells arr.toArray t fr)
  rest : w'.os = w.os ∧ w'.tape = w.tape ∧ w'.output = w.output

theorem Grew.alloc (w : World) (arr : List Value) (t : TypeId) : Grew w (w.alloc (.cells arr.toArray t)) arr t (0, 0) :=
  ⟨by simp, fun B hB => Go.heap_alloc_old w _ B hB, Go.heap_alloc_new w _, rfl, rfl, rfl⟩

theorem St.row {X : Nat → Prop} {H : Heap} (hS : St P F L X w H) {w' : World} {arr : List Value} {t : TypeId} {fr : Nat × Nat} (hg : Grew w w' arr t fr) (vs : List Value) (hv : ∀ (i : Nat) v, vs[i]? = some v → arr[i]? = some v ∧ v.oneCell' = true) :
    St P (addF F w.heap.size vs) L X w' H ∧ Goes (fun _ => False) F L w (addF F w.heap.size vs) L w' := by
  have hm : ∀ B i v, F B i = some v → addF F w.heap.size vs B i = some v := by
    intro B i v h
    have := hS.ltF h
    rw [addF_get, if_neg (by omega)]
    exact h
  have hgo : Goes (fun _ => False) F L w (addF F w.heap.size vs) L w' :=
    ⟨by have := hg.size; omega, fun B hB _ _ => ⟨hg.old B hB, fun i => by rw [addF_get, if_neg (by omega)]⟩, hm, fun _ _ h => h, fun _ h => .inl h, hg.rest, fun _ => Nat.le_refl _⟩
  refine ⟨⟨fun B i v h => ?_, hS.len, fun j cs B hj hne hmv hB => ?_, fun B hB => by have := hS.lt B hB; have := hg.size; omega, fun j cs B hj hne hB i hi => ?_, hS.nox, hS.inj, fun B hB => ?_, fun B hB => hS.room0 B (by have := hg.size; omega), fun j ks vs B hj hB => ?_⟩, hgo⟩
  · rw [addF_get] at h
    split at h
    · rename_i hb
      subst hb
      obtain ⟨h1, h2⟩ := hv _ _ h
      exact ⟨by rw [cell?_eq hg.new]; exact h1, h2⟩
    · obtain ⟨h1, h2⟩ := hS.mem _ _ _ h
      exact ⟨by rw [cell?_same (hg.old B (hS.ltF h))]; exact h1, h2⟩
  · obtain ⟨arr', t', h1, h2, h3, h4⟩ := hS.obj j cs B hj hne hmv hB
    exact ⟨arr', t', h1.same (hg.old B (hS.ltL (mem_of_get hB))), h2, h3, fun k c hk => (h4 k c hk).goes hgo⟩
  · have := hS.ltL (mem_of_get hB)
    rw [addF_get, if_neg (by omega)]
    exact hS.nof j cs B hj hne hB i hi
  · have := hS.xlt B hB
    have := hg.size
    omega
  · exact (hS.mob j ks vs B hj hB).goes hgo (hg.old B (hS.ltL (mem_of_get hB)))

/-- A variable of its own; a row of its own (so much room at least). -/
theorem St.varR {X : Nat → Prop} {H : Heap} (hS : St P F L X w H) {w' : World} {arr : List Value} {t : TypeId} {fr : Nat × Nat} (hg : Grew w w' arr t fr) (cs : List AV) (room : Nat) (hroom : room ≤ arr.length) (hmc : isMv cs = false) (hl : cs.length ≤ arr.length) (hr : ∀ (k : Nat) c, cs[k]? = some c → Rel F L c (arr.getD k undef)) (hfr : arr.length ≤ fr.1 ∨ fr = (0, 0) := by exact .inr rfl) :
    ∃ F' : Facts, F'.get = F.get ∧ (∀ b, F'.room b = if b = w.heap.size then room else F.room b) ∧ St P F' (L ++ [w.heap.size]) X w' (H ++ [cs]) ∧ Goes (fun _ => False) F L w F' (L ++ [w.heap.size]) w' := by
  obtain ⟨F', hFg, hFr⟩ : ∃ F' : Facts, F'.get = F.get ∧ ∀ b, F'.room b = if b = w.heap.size then room else F.room b := ⟨⟨F.get, fun b => if b = w.heap.size then room else F.room b⟩, rfl, fun _ => rfl⟩
  have hget : ∀ b i, F' b i = F b i := fun b i => by rw [hFg]
  have hpre : ∀ (j B : Nat), L[j]? = some B → (L ++ [w.heap.size])[j]? = some B := by
    intro j B h
    rw [List.getElem?_append_left (List.getElem?_eq_some_iff.1 h).1]
    exact h
  have hrm : ∀ B, F.room B ≤ F'.room B := by
    intro B
    rw [hFr]
    split
    · rename_i h; rw [hS.room0 B (by omega)]; exact Nat.zero_le _
    · exact Nat.le_refl _
  have hgo : Goes (fun _ => False) F L w F' (L ++ [w.heap.size]) w' :=
    ⟨by have := hg.size; omega, fun B hB _ _ => ⟨hg.old B hB, fun i => hget B i⟩, fun B i v h => by rw [hget]; exact h, hpre, fun B h => by
      rcases List.mem_append.1 h with h | h
      · exact .inl h
      · simp at h; exact .inr (by omega), hg.rest, hrm⟩
  have old : ∀ (j : Nat) cs' B, (H ++ [cs])[j]? = some cs' → (L ++ [w.heap.size])[j]? = some B → (H[j]? = some cs' ∧ L[j]? = some B) ∨ (j = L.length ∧ cs' = cs ∧ B = w.heap.size) := by
    intro j cs' B hj hB
    rcases Nat.lt_or_ge j L.length with hjl | hjl
    · rw [List.getElem?_append_left hjl] at hB
      rw [List.getElem?_append_left (hS.len ▸ hjl)] at hj
      exact .inl ⟨hj, hB⟩
    · rw [List.getElem?_append_right hjl] at hB
      rw [List.getElem?_append_right (hS.len ▸ hjl)] at hj
      have h0 : j - L.length = 0 := by
        have := (List.getElem?_eq_some_iff.1 hB).1
        simp at this
        omega
      rw [h0] at hB
      rw [← hS.len, h0] at hj
      simp at hB hj
      exact .inr ⟨by omega, hj.symm, hB.symm⟩
  refine ⟨F', hFg, hFr, ⟨fun B i v h => ?_, by simp [hS.len], fun j cs' B hj hne hmv hB => ?_, fun B hB => ?_, fun j cs' B hj hne hB i hi => ?_, fun B hB => ?_, fun i j cs1 cs2 B hi hn1 hj hn2 hBi hBj => ?_, fun B hB => ?_, fun B hB => ?_, fun j ks vs B hj hB => ?_⟩, hgo⟩
  · rw [hget] at h
    obtain ⟨h1, h2⟩ := hS.mem _ _ _ h
    exact ⟨by rw [cell?_same (hg.old B (hS.ltF h))]; exact h1, h2⟩
  · rcases old j cs' B hj hB with ⟨h1, h2⟩ | ⟨h1, rfl, rfl⟩
    · obtain ⟨arr', t', h3, h4, h5, h6⟩ := hS.obj j cs' B h1 hne hmv h2
      have hlt := hS.ltL (mem_of_get h2)
      exact ⟨arr', t', h3.same (hg.old B hlt), h4, by rw [hFr, if_neg (by omega)]; exact h5, fun k c hk => (h6 k c hk).goes hgo⟩
    · exact ⟨arr, t, ⟨fr, hg.new, hfr⟩, hl, by rw [hFr, if_pos rfl]; exact hroom, fun k c hk => (hr k c hk).goes hgo⟩
  · have := hg.size
    rcases List.mem_append.1 hB with h | h
    · have := hS.lt B h; omega
    · simp at h; omega
  · rw [hget]
    rcases old j cs' B hj hB with ⟨h1, h2⟩ | ⟨h1, rfl, rfl⟩
    · exact hS.nof j cs' B h1 hne h2 i hi
    · cases hf : F w.heap.size i with
      | none => rfl
      | some v => have := hS.ltF hf; omega
  · rcases List.mem_append.1 hB with h | h
    · exact hS.nox B h
    · simp at h
      subst h
      intro hx
      have := hS.xlt _ hx
      omega
  · rcases old i cs1 B hi hBi with ⟨h1, h2⟩ | ⟨h1, h1', h1''⟩ <;> rcases old j cs2 B hj hBj with ⟨h3, h4⟩ | ⟨h3, h3', h3''⟩
    · exact hS.inj i j cs1 cs2 B h1 hn1 h3 hn2 h2 h4
    · subst h3''; have := hS.ltL (mem_of_get h2); omega
    · subst h1''; have := hS.ltL (mem_of_get h4); omega
    · omega
  · have := hS.xlt B hB
    have := hg.size
    omega
  · rw [hFr, if_neg (by have := hg.size; omega)]
    exact hS.room0 B (by have := hg.size; omega)
  · rcases old j _ B hj hB with ⟨h1, h2⟩ | ⟨h1, h2, h3⟩
    · exact (hS.mob j ks vs B h1 h2).goes hgo (hg.old B (hS.ltL (mem_of_get h2)))
    · rw [← h2] at hmc; cases hmc

theorem Facts.ext' {F F' : Facts} (h1 : F'.get = F.get) (h2 : ∀ b, F'.room b = F.room b) : F' = F := by
  cases F; cases F'
  simp only at h1 h2
  subst h1
  rw [funext h2]

theorem St.var {X : Nat → Prop} {H : Heap} (hS : St P F L X w H) {w' : World} {arr : List Value} {t : TypeId} {fr : Nat × Nat} (hg : Grew w w' arr t fr) (cs : List AV) (hmc : isMv cs = false) (hl : arr.length = cs.length) (hr : ∀ (k : Nat) c, cs[k]? = some c → Rel F L c (arr.getD k undef)) (hfr : arr.length ≤ fr.1 ∨ fr = (0, 0) := by exact .inr rfl) :
    St P F (L ++ [w.heap.size]) X w' (H ++ [cs]) ∧ Goes (fun _ => False) F L w F (L ++ [w.heap.size]) w' := by
  obtain ⟨F', h1, h2, h3, h4⟩ := hS.varR hg cs 0 (Nat.zero_le _) hmc (by omega) hr hfr
  have : F' = F := Facts.ext' h1 (fun b => by
    rw [h2]; split
    · rename_i h; rw [hS.room0 b (by omega)]
    · rfl)
  subst this
  exact ⟨h3, h4⟩
end
end Go.Lv
