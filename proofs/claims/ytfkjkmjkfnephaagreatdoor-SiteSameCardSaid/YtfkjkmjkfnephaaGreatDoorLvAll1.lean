/- A value semantics of the loaded code, its soundness, and walks through functions over it. -/
import Derived.Test.YtfkjkmjkfnephaaGreatDoorLvAll0
import Derived.Deep.MidRow
import Derived.Deep.AppendSrc
import Derived.MapKept
import Derived.Lib.TrailingZeros
import Derived.Lib.ItoaNum
import Derived.Lib.LaidTab
set_option linter.unusedVariables false
set_option linter.unusedSimpArgs false
namespace Go.Lv
structure Facts where
 get : Nat → Nat → Option Value
 room : Nat → Nat
instance : CoeFun Facts (fun _ => Nat → Nat → Option Value) := ⟨Facts.get⟩
inductive Rel (F : Facts) (L : List Nat) : AV → Value → Prop
 | un (v : Value) : Rel F L .un v
 | sc (x : Value) (h : x.oneCell' = true) : Rel F L (.v x) x
 | sl0 (a : Option Addr) (cap : Nat) (h : a = none → cap = 0) : Rel F L (.sl []) (.slice a 0 cap)
 | sl (xs : List AV) (B o len cap sz : Nat) (vals : Nat → Nat → Value) (hl : xs.length = len) (h0 : 0 < len) (hc : len ≤ cap) (hs : 0 < sz)
   (hn : ∀ (i : Nat) (e : AV), xs[i]? = some e → e.cells.length = sz)
   (hf : ∀ i k, i < len → k < sz → F B (o + i * sz + k) = some (vals i k))
   (hr : ∀ (i : Nat) (e : AV) (k : Nat) (c : AV), xs[i]? = some e → e.cells[k]? = some c → Rel F L c (vals i k)) : Rel F L (.sl xs) (.slice (some ⟨B, o, none⟩) len cap)
 | agg (xs : List AV) (arr : List Value) (hl : arr.length = xs.length) (hr : ∀ (k : Nat) (c : AV), xs[k]? = some c → Rel F L c (arr.getD k undef)) : Rel F L (.agg xs) (.agg arr.toArray)
 | tup (xs : List AV) (arr : List Value) (hl : arr.length = xs.length) (hr : ∀ (k : Nat) (c : AV), xs[k]? = some c → Rel F L c (arr.getD k undef)) : Rel F L (.tup xs) (.tuple arr.toArray)
 | fn (f : FuncId) (xs : List AV) (arr : List Value) (hl : arr.length = xs.length) (hr : ∀ (k : Nat) (c : AV), xs[k]? = some c → Rel F L c (arr.getD k undef)) : Rel F L (.fn f xs) (.func (.func f) #[] arr.toArray)
 | ptr (j off B : Nat) (h : L[j]? = some B) : Rel F L (.ptr j off) (.pointer (some ⟨B, off, none⟩))
 | ea (e : AV) (off B a : Nat) (vals : Nat → Value)
   (hf : ∀ k, k < e.cells.length → F B (a + k) = some (vals k))
   (hr : ∀ (k : Nat) (c : AV), e.cells[k]? = some c → Rel F L c (vals k)) : Rel F L (.ea e off) (.pointer (some ⟨B, a + off, none⟩))
 | mr (j off len n cap B : Nat) (g : Bool) (h : L[j]? = some B) (hc : len ≤ cap) (hn : 0 < n) (hr : off + cap * n ≤ F.room B) (hx : cap ≤ 9223372036854775807) : Rel F L (.mr j off len n g) (.slice (some ⟨B, off, none⟩) len cap)
 | ow (xs : List AV) (j B len cap sz : Nat) (vals : Nat → Nat → Value) (h : L[j]? = some B) (hl : xs.length = len) (h0 : 0 < len) (hc : len ≤ cap) (hs : 0 < sz)
   (hn : ∀ (i : Nat) (e : AV), xs[i]? = some e → e.cells.length = sz)
   (hf : ∀ i k, i < len → k < sz → F B (i * sz + k) = some (vals i k))
   (hr : ∀ (i : Nat) (e : AV) (k : Nat) (c : AV), xs[i]? = some e → e.cells[k]? = some c → Rel F L c (vals i k))
   (hm : cap * sz ≤ F.room B) (hx : cap ≤ 9223372036854775807) : Rel F L (.ow xs j) (.slice (some ⟨B, 0, none⟩) len cap)
 | ow0 (j : Nat) (a : Option Addr) : Rel F L (.ow [] j) (.slice a 0 0)
 | mp (j B : Nat) (h : L[j]? = some B) : Rel F L (.mp j) (.map (some B))
 | tk (lo : Nat) (v : Value) : Rel F L (.tk lo) v
 | mv (ks vs : List AV) (v : Value) : Rel F L (.mv ks vs) v
theorem Rel.mono {F F' : Facts} {L L' : List Nat} (hF : ∀ B i v, F B i = some v → F' B i = some v) (hR : ∀ B, F.room B ≤ F'.room B) (hL : ∀ (j B : Nat), L[j]? = some B → L'[j]? = some B) {a : AV} {v : Value} (h : Rel F L a v) : Rel F' L' a v := by
 induction h with
 | un v => exact .un v
 | sc x h => exact .sc x h
 | sl0 a cap h => exact .sl0 a cap h
 | sl xs B o len cap sz vals hl h0 hc hs hn hf hr ih => exact .sl xs B o len cap sz vals hl h0 hc hs hn (fun i k hi hk => hF _ _ _ (hf i k hi hk)) ih
 | agg xs arr hl hr ih => exact .agg xs arr hl ih
 | tup xs arr hl hr ih => exact .tup xs arr hl ih
 | fn f xs arr hl hr ih => exact .fn f xs arr hl ih
 | ptr j off B h => exact .ptr j off B (hL _ _ h)
 | ea e off B a vals hf hr ih => exact .ea e off B a vals (fun k hk => hF _ _ _ (hf k hk)) ih
 | mr j off len n cap B g h hc hn hr hx => exact .mr j off len n cap B g (hL _ _ h) hc hn (Nat.le_trans hr (hR B)) hx
 | ow xs j B len cap sz vals h hl h0 hc hs hn hf hr hm hx ih => exact .ow xs j B len cap sz vals (hL _ _ h) hl h0 hc hs hn (fun i k hi hk => hF _ _ _ (hf i k hi hk)) ih (Nat.le_trans hm (hR B)) hx
 | ow0 j a => exact .ow0 j a
 | mp j B h => exact .mp j B (hL _ _ h)
 | tk lo v => exact .tk lo v
 | mv ks vs v => exact .mv ks vs v
theorem Rel.owA {F : Facts} {L : List Nat} {a : AV} {v : Value} (h : Rel F L a v) : Rel F L (Lv.owA a) v := by
 cases h with
 | ow xs j B len cap sz vals h hl h0 hc hs hn hf hr hm hx =>
  exact .sl xs B 0 len cap sz vals hl h0 hc hs hn (fun i k hi hk => by rw [Nat.zero_add]; exact hf i k hi hk) hr
 | ow0 j a => exact .sl0 _ _ (fun _ => rfl)
 | un v => exact .un _
 | sc x h => exact .sc v h
 | sl0 a cap h => exact .sl0 a cap h
 | sl xs B o len cap sz vals hl h0 hc hs hn hf hr => exact .sl xs B o len cap sz vals hl h0 hc hs hn hf hr
 | agg xs arr hl hr => exact .agg xs arr hl hr
 | tup xs arr hl hr => exact .tup xs arr hl hr
 | fn f xs arr hl hr => exact .fn f xs arr hl hr
 | ptr j off B h => exact .ptr j off B h
 | ea e off B a vals hf hr => exact .ea e off B a vals hf hr
 | mr j off len n cap B g h hc hn hr hx => exact .mr j off len n cap B g h hc hn hr hx
 | mp j B h => exact .mp j B h
 | tk lo v => exact .tk lo _
 | mv ks vs v => exact .mv ks vs _
theorem Rel.plainA {F : Facts} {L : List Nat} {a : AV} {v : Value} (h : Rel F L a v) : Rel F L (Lv.plainA a) v := by
 cases a with
 | v y =>
  show Rel F L (if isNilV y = true then .sl [] else .v y) v
  split
  ·rename_i hx
   have := isNilV_spec hx
   subst this
   cases h
   exact .sl0 none 0 (fun _ => rfl)
  ·exact h
 | ow xs j => exact h.owA
 | _ => exact h
theorem Rel.one {F : Facts} {L : List Nat} {a : AV} {v : Value} (h : Rel F L a v) (h1 : a.one = true) : v.oneCell' = true := by
 cases h <;> simp_all [AV.one, Value.oneCell']
theorem cells_one {v : Value} (h : v.oneCell' = true) : v.cells = #[v] := by
 cases v <;> simp_all [Value.oneCell', Value.cells]
theorem Rel.cells {F : Facts} {L : List Nat} {a : AV} {v : Value} (h : Rel F L a v) (h1 : a ≠ .un) (h2 : ∀ lo, a ≠ .tk lo := by intro; simp) (h3 : ∀ ks vs, a ≠ .mv ks vs := by intro; simp) : v.cells.size = a.cells.length ∧ ∀ (k : Nat) (c : AV), a.cells[k]? = some c → Rel F L c (v.cells.toList.getD k undef) := by
 have one : ∀ (a : AV) (v : Value), Rel F L a v → a.cells = [a] → v.cells = #[v] → v.cells.size = a.cells.length ∧ ∀ (k : Nat) (c : AV), a.cells[k]? = some c → Rel F L c (v.cells.toList.getD k undef) := by
  intro a v h ha hv
  rw [ha, hv]
  refine ⟨rfl, fun k c hk => ?_⟩
  cases k with
  | zero => simp at hk; subst hk; simpa using h
  | succ k => simp at hk
 cases h with
 | un v => exact absurd rfl h1
 | sc x h => exact one _ _ (.sc v h) rfl (cells_one h)
 | sl0 a cap h => exact one _ _ (.sl0 a cap h) rfl rfl
 | sl xs B o len cap sz vals hl h0 hc hs hn hf hr => exact one _ _ (.sl xs B o len cap sz vals hl h0 hc hs hn hf hr) rfl rfl
 | agg xs arr hl hr => exact ⟨by simp [Value.cells, AV.cells, hl], fun k c hk => by simpa [Value.cells] using hr k c (by simpa [AV.cells] using hk)⟩
 | tup xs arr hl hr => exact one _ _ (.tup xs arr hl hr) rfl rfl
 | fn f xs arr hl hr => exact one _ _ (.fn f xs arr hl hr) rfl rfl
 | ptr j off B h => exact one _ _ (.ptr j off B h) rfl rfl
 | ea e off B a vals hf hr => exact one _ _ (.ea e off B a vals hf hr) rfl rfl
 | mr j off len n cap B g h hc hn hr hx => exact one _ _ (.mr j off len n cap B g h hc hn hr hx) rfl rfl
 | ow xs j B len cap sz vals h hl h0 hc hs hn hf hr hm hx => exact one _ _ (.ow xs j B len cap sz vals h hl h0 hc hs hn hf hr hm hx) rfl rfl
 | ow0 j a => exact one _ _ (.ow0 j a) rfl rfl
 | mp j B h => exact one _ _ (.mp j B h) rfl rfl
 | tk lo v => exact absurd rfl (h2 lo)
 | mv ks vs v => exact absurd rfl (h3 ks vs)
theorem Rel.cellsOne {F : Facts} {L : List Nat} {a : AV} {v : Value} (h : Rel F L a v) (h1 : a.cells.all AV.one = true) : v.cells.size = a.cells.length ∧ ∀ (k : Nat) (c : AV), a.cells[k]? = some c → Rel F L c (v.cells.toList.getD k undef) :=
 h.cells (by rintro rfl; simp [AV.cells, AV.one] at h1) (by rintro lo rfl; simp [AV.cells, AV.one] at h1) (by rintro ks vs rfl; simp [AV.cells, AV.one] at h1)
theorem lit1_rel (F : Facts) (L : List Nat) (x : Value) : Rel F L (lit1 x) x := by
 cases x with
 | slice a len cap =>
  unfold lit1
  split
  ·rename_i h; injection h with h1 h2 h3; subst h1 h2 h3; exact .sl0 none 0 (fun _ => rfl)
  ·exact .un _
  ·exact .un _
  ·exact .un _
  ·rename_i h1 h2 h3 h4; exact absurd rfl (h2 a len cap)
 | tuple _ => exact .un _
 | agg _ => exact .un _
 | _ => exact .sc _ rfl
theorem lit_rel (F : Facts) (L : List Nat) (x : Value) : Rel F L (lit x) x := by
 cases x with
 | agg cs =>
  have h : Rel F L (.agg (cs.toList.map lit1)) (.agg cs.toList.toArray) := by
   refine .agg _ _ (by simp) (fun k c hk => ?_)
   rw [List.getElem?_map] at hk
   obtain ⟨x, hx, rfl⟩ := xoM.1 hk
   rw [xgD, hx]
   exact lit1_rel F L x
  simpa [lit] using h
 | _ => (unfold lit; exact lit1_rel F L _)
theorem litX1_rel (F : Facts) (L : List Nat) (x : Value) : Rel F L (litX1 x) x := by
 unfold litX1
 split
 ·exact .sc _ rfl
 ·exact lit1_rel F L x
theorem litX_rel (F : Facts) (L : List Nat) (x : Value) : Rel F L (litX x) x := by
 cases x with
 | agg cs =>
  have h : Rel F L (.agg (cs.toList.map litX1)) (.agg cs.toList.toArray) := by
   refine .agg _ _ (by simp) (fun k c hk => ?_)
   rw [List.getElem?_map] at hk
   obtain ⟨x, hx, rfl⟩ := xoM.1 hk
   rw [xgD, hx]
   exact litX1_rel F L x
  simpa [litX] using h
 | _ => (unfold litX; exact litX1_rel F L _)
theorem evX_rel {F : Facts} {L : List Nat} {e : Env} {ρ : Operand → Value} (hT : ∀ x, Rel F L (ev e x) (ρ x)) (hc : ∀ v, ρ (.const v) = v) (x : Operand) : Rel F L (evX e x) (ρ x) := by
 cases x with
 | const v => rw [hc]; exact litX_rel F L v
 | tmp t => exact hT (.tmp t)
 | global g => exact hT (.global g)
 | func f => exact hT (.func f)
def MapAt (F : Facts) (L : List Nat) (w : World) (B : Nat) (ks vs : List AV) : Prop :=
 ∃ (es fs : List MapEntry) (clk : Nat), w.heap[B]? = some (.map es.toArray clk) ∧ MapKept.Stamped es.toArray clk ∧ fs.Perm es ∧ ks.length = fs.length ∧ vs.length = fs.length ∧
  (∀ (i : Nat) k, ks[i]? = some k → ∃ e, fs[i]? = some e ∧ Rel F L k e.key) ∧ ∀ (i : Nat) v, vs[i]? = some v → ∃ e, fs[i]? = some e ∧ Rel F L v e.val
def Holds (w : World) (B : Nat) (arr : List Value) (t : TypeId) : Prop := ∃ fr : Nat × Nat, w.heap[B]? = some (.cells arr.toArray t fr) ∧ (arr.length ≤ fr.1 ∨ fr = (0, 0))
theorem Holds.same {w w' : World} {B : Nat} {arr : List Value} {t : TypeId} (h : Holds w B arr t) (he : w'.heap[B]? = w.heap[B]?) : Holds w' B arr t := by
 obtain ⟨fr, h1, h2⟩ := h
 exact ⟨fr, by rw [he]; exact h1, h2⟩
theorem Holds.new {w : World} {B : Nat} {arr : List Value} {t : TypeId} (h : w.heap[B]? = some (.cells arr.toArray t (0, 0))) : Holds w B arr t := ⟨_, h, .inr rfl⟩
theorem Holds.cell {w : World} {B i : Nat} {arr : List Value} {t : TypeId} (h : Holds w B arr t) : w.cell? ⟨B, i, none⟩ = arr[i]? := by
 obtain ⟨fr, h1, _⟩ := h
 simp [World.cell?, h1]
theorem Holds.soft {w : World} {B i : Nat} {arr : List Value} {t : TypeId} (h : Holds w B arr t) (hi : i < arr.length) : w.frozen? ⟨B, i, none⟩ = false := by
 obtain ⟨⟨lo, hi'⟩, h1, h2⟩ := h
 simp only [World.frozen?, h1, Bool.and_eq_false_iff, decide_eq_false_iff_not]
 rcases h2 with h2 | h2
 ·left; simp only at h2; omega
 ·right; injection h2 with h3 h4; omega
theorem Holds.inj {w : World} {B : Nat} {arr arr' : List Value} {t t' : TypeId} (h : Holds w B arr t) (h' : Holds w B arr' t') : arr = arr' := by
 obtain ⟨fr, h1, _⟩ := h
 obtain ⟨fr', h2, _⟩ := h'
 rw [h1] at h2
 injection h2 with h2; injection h2 with h2
 simpa using h2
structure St (P : Program) (F : Facts) (L : List Nat) (X : Nat → Prop) (w : World) (H : Heap) : Prop where
 mem : ∀ B i v, F B i = some v → w.cell? ⟨B, i, none⟩ = some v ∧ v.oneCell' = true
 len : L.length = H.length
 obj : ∀ (j : Nat) cs B, H[j]? = some cs → cs ≠ [] → isMv cs = false → L[j]? = some B → ∃ (arr : List Value) (t : TypeId), Holds w B arr t ∧ cs.length ≤ arr.length ∧ F.room B ≤ arr.length ∧ ∀ (k : Nat) c, cs[k]? = some c → Rel F L c (arr.getD k undef)
 lt : ∀ B ∈ L, B < w.heap.size
 nof : ∀ (j : Nat) cs B, H[j]? = some cs → cs ≠ [] → L[j]? = some B → ∀ i, tkLo cs ≤ i → F B i = none
 nox : ∀ B ∈ L, ¬ X B
 inj : ∀ (i j : Nat) cs ds B, H[i]? = some cs → cs ≠ [] → H[j]? = some ds → ds ≠ [] → L[i]? = some B → L[j]? = some B → i = j
 xlt : ∀ B, X B → B < w.heap.size
 room0 : ∀ B, w.heap.size ≤ B → F.room B = 0
 mob : ∀ (j : Nat) ks vs B, H[j]? = some [.mv ks vs] → L[j]? = some B → MapAt F L w B ks vs
 rm : ∀ (j : Nat) cs B, H[j]? = some cs → plainRow cs = true → L[j]? = some B → cs.length ≤ F.room B
def globNames : List String := ["internal/bytealg.MaxLen", "internal/strconv.uint64pow10", "math/bits.deBruijn64tab"]
def globIx (P : Program) (g : Nat) : Prop := ∃ n ∈ globNames, P.globalNamed n = some g
structure GlobOK (P : Program) (w : World) : Prop where
 maxLen : ∀ g, P.globalNamed "internal/bytealg.MaxLen" = some g → ∃ m, w.cell? ⟨g, 0, none⟩ = some (.int .i64 m)
 pow10 : (P.globalNamed "internal/strconv.uint64pow10").isSome = true → Lib.TabIs P w "internal/strconv.uint64pow10" .u64 Lib.pow10Tab
 deb : ∀ g, P.globalNamed "math/bits.deBruijn64tab" = some g → ∀ j, j < Lib.deBruijn64tab.length → w.cell? ⟨g, j, none⟩ = some (.int .u8 (Lib.deBruijn64tab.getD j 0))
theorem GlobOK.same {P : Program} {w w' : World} (h : GlobOK P w) (he : ∀ g, globIx P g → w'.heap[g]? = w.heap[g]?) : GlobOK P w' := by
 refine ⟨fun g hg => ?_, fun hp => ?_, fun g hg j hj => ?_⟩
 ·have := h.maxLen g hg
  unfold World.cell? at this ⊢
  simp only [he g ⟨_, by simp [globNames], hg⟩]
  exact this
 ·have h1 := h.pow10 hp
  obtain ⟨g, hg⟩ := Option.isSome_iff_exists.1 hp
  unfold Lib.TabIs World.var? at h1 ⊢
  rw [hg] at h1 ⊢
  simp only [Option.bind_some] at h1 ⊢
  rw [he g ⟨_, by simp [globNames], hg⟩]
  exact h1
 ·have := h.deb g hg j hj
  unfold World.cell? at this ⊢
  simp only [he g ⟨_, by simp [globNames], hg⟩]
  exact this
theorem GlobOK.lt {P : Program} {w : World} (h : GlobOK P w) : ∀ g, globIx P g → g < w.heap.size := by
 rintro g ⟨n, hn, hg⟩
 have key : ∀ {o : Obj}, w.heap[g]? = some o → g < w.heap.size := fun ho => (Array.getElem?_eq_some_iff.1 ho).1
 simp only [globNames, List.mem_cons, List.not_mem_nil, or_false] at hn
 rcases hn with rfl | rfl | rfl
 ·obtain ⟨m, hm⟩ := h.maxLen g hg
  unfold World.cell? at hm
  simp only at hm
  split at hm
  ·rename_i ho; exact key ho
  ·cases hm
 ·have ht := h.pow10 (by rw [hg]; rfl)
  unfold Lib.TabIs World.var? at ht
  rw [hg] at ht
  simp only [Option.bind_some] at ht
  split at ht
  ·rename_i ho; exact key ho
  ·cases ht
 ·have hm := h.deb g hg 0 (by decide)
  unfold World.cell? at hm
  simp only at hm
  split at hm
  ·rename_i ho; exact key ho
  ·cases hm
structure GlobAt (P : Program) (L : List Nat) (G : Nat → Prop) (w : World) : Prop where
 ok : GlobOK P w
 at_ : ∀ g, globIx P g → g < w.heap.size ∧ g ∉ L ∧ ¬ G g
theorem GlobAt.none {P : Program} (h : (globNames.all fun n => (P.globalNamed n).isNone) = true) (L : List Nat) (G : Nat → Prop) (w : World) : GlobAt P L G w := by
 have hn : ∀ n ∈ globNames, P.globalNamed n = .none := fun n hn => by
  have := List.all_eq_true.1 h n hn
  simpa using this
 refine ⟨⟨fun g hg => ?_, fun hp => ?_, fun g hg => ?_⟩, fun g hg => ?_⟩
 ·rw [hn _ (by simp [globNames])] at hg; cases hg
 ·rw [hn _ (by simp [globNames])] at hp; cases hp
 ·rw [hn _ (by simp [globNames])] at hg; cases hg
 ·obtain ⟨n, h1, h2⟩ := hg
  rw [hn n h1] at h2; cases h2
structure Goes (G : Nat → Prop) (F : Facts) (L : List Nat) (w : World) (F' : Facts) (L' : List Nat) (w' : World) : Prop where
 size : w.heap.size ≤ w'.heap.size
 keep : ∀ B, B < w.heap.size → ¬ G B → B ∉ L → w'.heap[B]? = w.heap[B]? ∧ ∀ i, F' B i = F B i
 mono : ∀ B i v, F B i = some v → F' B i = some v
 pre : ∀ (j B : Nat), L[j]? = some B → L'[j]? = some B
 newL : ∀ B ∈ L', B ∈ L ∨ w.heap.size ≤ B
 rest : w'.os = w.os ∧ w'.tape = w.tape ∧ w'.output = w.output
 room : ∀ B, F.room B ≤ F'.room B
theorem mem_of_get {L : List Nat} {j B : Nat} (h : L[j]? = some B) : B ∈ L := List.mem_of_getElem? h
theorem Goes.refl (G : Nat → Prop) (F : Facts) (L : List Nat) (w : World) : Goes G F L w F L w :=
 ⟨Nat.le_refl _, fun _ _ _ _ => ⟨rfl, fun _ => rfl⟩, fun _ _ _ h => h, fun _ _ h => h, fun _ h => .inl h, ⟨rfl, rfl, rfl⟩, fun _ => Nat.le_refl _⟩
theorem Goes.trans {G G' : Nat → Prop} {F F1 F2 : Facts} {L L1 L2 : List Nat} {w w1 w2 : World} (h : Goes G F L w F1 L1 w1) (h' : Goes G' F1 L1 w1 F2 L2 w2) : Goes (fun B => G B ∨ G' B) F L w F2 L2 w2 := by
 refine ⟨Nat.le_trans h.size h'.size, fun B hB hg hL => ?_, fun B i v hv => h'.mono _ _ _ (h.mono _ _ _ hv), fun j B hj => h'.pre _ _ (h.pre _ _ hj), fun B hB => ?_, ⟨h'.rest.1.trans h.rest.1, h'.rest.2.1.trans h.rest.2.1, h'.rest.2.2.trans h.rest.2.2⟩, fun B => Nat.le_trans (h.room B) (h'.room B)⟩
 ·obtain ⟨a, b⟩ := h.keep B hB (fun g => hg (.inl g)) hL
  have hL1 : B ∉ L1 := fun hm => by
   rcases h.newL B hm with h1 | h1
   ·exact hL h1
   ·omega
  obtain ⟨c, d⟩ := h'.keep B (by have := h.size; omega) (fun g => hg (.inr g)) hL1
  exact ⟨c.trans a, fun i => (d i).trans (b i)⟩
 ·rcases h'.newL B hB with h1 | h1
  ·exact h.newL B h1
  ·exact .inr (by have := h.size; omega)
theorem Goes.weaken {G G' : Nat → Prop} {F F' : Facts} {L L' : List Nat} {w w' : World} (h : Goes G F L w F' L' w') (hG : ∀ B, B < w.heap.size → G B → G' B) : Goes G' F L w F' L' w' :=
 ⟨h.size, fun B hB hg hL => h.keep B hB (fun g => hg (hG B hB g)) hL, h.mono, h.pre, h.newL, h.rest, h.room⟩
theorem MapAt.goes {G : Nat → Prop} {F F' : Facts} {L L' : List Nat} {w w' : World} {B : Nat} {ks vs : List AV} (h : MapAt F L w B ks vs) (hg : Goes G F L w F' L' w') (hB : w'.heap[B]? = w.heap[B]?) : MapAt F' L' w' B ks vs := by
 obtain ⟨es, fs, clk, h1, hst, hpm, h2, h3, h4, h5⟩ := h
 refine ⟨es, fs, clk, by rw [hB]; exact h1, hst, hpm, h2, h3, fun i k hk => ?_, fun i v hv => ?_⟩
 ·obtain ⟨e, he, hr⟩ := h4 i k hk
  exact ⟨e, he, hr.mono hg.mono hg.room hg.pre⟩
 ·obtain ⟨e, he, hr⟩ := h5 i v hv
  exact ⟨e, he, hr.mono hg.mono hg.room hg.pre⟩
theorem Rel.goes {G : Nat → Prop} {F F' : Facts} {L L' : List Nat} {w w' : World} (hg : Goes G F L w F' L' w') {a : AV} {v : Value} (h : Rel F L a v) : Rel F' L' a v := h.mono hg.mono hg.room hg.pre
theorem GlobAt.goes {P : Program} {G : Nat → Prop} {F F' : Facts} {L L' : List Nat} {w w' : World} (h : GlobAt P L G w) (hg : Goes G F L w F' L' w') : GlobAt P L' G w' := by
 refine ⟨h.ok.same fun g hi => ?_, fun g hi => ?_⟩
 ·obtain ⟨h1, h2, h3⟩ := h.at_ g hi
  exact (hg.keep g h1 h3 h2).1
 ·obtain ⟨h1, h2, h3⟩ := h.at_ g hi
  refine ⟨Nat.lt_of_lt_of_le h1 hg.size, fun hm => ?_, h3⟩
  rcases hg.newL g hm with h | h
  ·exact h2 h
  ·omega
theorem GlobAt.weaken {P : Program} {G G' : Nat → Prop} {L L' : List Nat} {w : World} (h : GlobAt P L G w) (hL : ∀ B ∈ L', B ∈ L) (hG : ∀ B, B < w.heap.size → G' B → G B) : GlobAt P L' G' w :=
 ⟨h.ok, fun g hi => ⟨(h.at_ g hi).1, fun hm => (h.at_ g hi).2.1 (hL g hm), fun hg => (h.at_ g hi).2.2 (hG g (h.at_ g hi).1 hg)⟩⟩
def Own (F : Facts) (L : List Nat) (X : Nat → Prop) (w : World) (sz : Nat) (v : Value) : Prop :=
 ∀ (a : Addr) (len cap : Nat), v = .slice (some a) len cap → a.spot = none ∧ len ≤ cap ∧ ¬ X a.block ∧ a.block ∉ L ∧ a.block < w.heap.size ∧ (∀ i, a.off + len * sz ≤ i → F a.block i = none) ∧
  (∀ i, i < (cap - len) * sz → (w.cell? ⟨a.block, a.off + len * sz + i, none⟩).isSome = true ∧ w.frozen? ⟨a.block, a.off + len * sz + i, none⟩ = false) ∧
  ∃ (arr : List Value) (t : TypeId), w.heap[a.block]? = some (.cells arr.toArray t (0, 0))
theorem Own.goes {G : Nat → Prop} {F F' : Facts} {L L' : List Nat} {X : Nat → Prop} {w w' : World} {sz : Nat} {v : Value} (h : Own F L X w sz v) (hg : Goes G F L w F' L' w') (hv : ∀ B, v.ownBlock = some B → ¬ G B) : Own F' L' X w' sz v := by
 rintro ⟨B, o, sp⟩ len cap rfl
 obtain ⟨h1, h2, h3, h4, h5, h6, h7, h8⟩ := h _ _ _ rfl
 simp only at h1 h2 h3 h4 h5 h6 h7 h8 ⊢
 obtain ⟨k1, k2⟩ := hg.keep B h5 (hv B rfl) h4
 refine ⟨h1, h2, h3, fun hm => ?_, Nat.lt_of_lt_of_le h5 hg.size, fun i hi => (k2 i).trans (h6 i hi), fun i hi => ?_, by rw [k1]; exact h8⟩
 ·rcases hg.newL B hm with h | h
  ·exact h4 h
  ·omega
 ·simpa [World.cell?, World.frozen?, k1] using h7 i hi
end Go.Lv
