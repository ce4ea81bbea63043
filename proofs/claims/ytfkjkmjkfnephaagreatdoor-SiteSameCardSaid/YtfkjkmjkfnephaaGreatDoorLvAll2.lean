/- A value semantics of the loaded code, its soundness, and walks through functions over it. -/
import Derived.Test.YtfkjkmjkfnephaaGreatDoorLvAll1
import Derived.Laws.StructEq
set_option linter.unusedVariables false
set_option linter.unusedSimpArgs false
namespace Go.Lv
section
variable {P : Program} {F : Facts} {L : List Nat} {w : World}
theorem Rel.v_eq {x y : Value} (h : Rel F L (.v x) y) : x = y ∧ y.oneCell' = true := by cases h; exact ⟨rfl, by assumption⟩
theorem run_eqGuard_sc (op : BinOp) (xt : TypeId) (x y : Operand) (a b : Value) (h1 : ∀ c, a ≠ .agg c) (h2 : a ≠ .nilIface) : (eqGuard op xt x y a b).run P w = .ok () w := by
 unfold eqGuard
 cases op <;> simp <;> (cases a <;> simp_all)
theorem equal_bool {t : TypeId} (d : Nat) (a b : Bool) (hu : P.underlying t = some .bool) : (Op.equalIn (d + 1) t (.bool a) (.bool b)).run P w = .ok (a == b) w := by
 simp [Op.equalIn, run_underlying hu]
theorem equal_ptr_nil {t e : TypeId} (d : Nat) (a : Addr) (hu : P.underlying t = some (.pointer e)) : (Op.equalIn (d + 1) t (.pointer (some a)) (.pointer none)).run P w = .ok false w := by
 simp [Op.equalIn, run_underlying hu]
theorem equal_nil_nil {t e : TypeId} (d : Nat) (hu : P.underlying t = some (.pointer e)) : (Op.equalIn (d + 1) t (.pointer none) (.pointer none)).run P w = .ok true w := by
 simp [Op.equalIn, run_underlying hu]
theorem binOp_eql {xt : TypeId} {x y : Value} {t : Bool} (h1 : ∀ k n, x ≠ .int k n) (h2 : ∀ s, x ≠ .string s) (h3 : ∀ k n, x ≠ .float k n) (h4 : ∀ k n m, x ≠ .complex k n m)
  (h : (Op.equalIn (9999 + 1) xt x y).run P w = .ok t w) : (binOp .eql xt x y).run P w = .ok (.bool t) w ∧ (binOp .neq xt x y).run P w = .ok (.bool !t) w := by
 have h' : (Op.equal xt x y).run P w = .ok t w := h
 cases x <;> simp_all [binOp]
theorem wf_bool (t : Bool) : Rel F L (.b t) (.bool t) := .sc _ rfl
theorem part_int {e : TypeId} {k : IntKind} (hu : P.underlying e = some (.int k)) {arr : Array Value} {i : Nat} {v : Value} (h : arr[i]? = some v) : (part e arr i).run P w = .ok v w := by
 simp [part, isAgg, run_underlying hu, h]
theorem equalIn_loop {e : TypeId} {k : IntKind} (hu : P.underlying e = some (.int k)) {xs ys : List AV} {us vs : List Value} {d : Nat} : ∀ (m i : Nat) (r : Bool), eqArr k (xs.drop i) (ys.drop i) = some r → i + m = xs.length → us.length = xs.length → vs.length = ys.length →
  (∀ (j : Nat) c, xs[j]? = some c → Rel F L c (us.getD j undef)) → (∀ (j : Nat) c, ys[j]? = some c → Rel F L c (vs.getD j undef)) →
  (do
   for i in List.range' i m do
    if !(← Op.equalIn (d + 1) e (← part e us.toArray (i * 1)) (← part e vs.toArray (i * 1))) then return false
   pure true : Sem Bool).run P w = .ok r w := by
 intro m
 induction m with
 | zero =>
  intro i r h hi hu1 hv1 hx hy
  rw [List.drop_eq_nil_of_le (by omega)] at h
  cases hys : ys.drop i with
  | nil => rw [hys] at h; injection h with h; subst h; simp
  | cons y t => rw [hys] at h; cases h
 | succ m ih =>
  intro i r h hi hu1 hv1 hx hy
  have hil : i < xs.length := by omega
  rw [List.drop_eq_getElem_cons hil] at h
  cases hys : ys.drop i with
  | nil =>
   rw [hys] at h
   unfold eqArr at h
   split at h
   ·rename_i h1 _; cases h1
   ·rename_i _ h2; cases h2
   ·cases h
  | cons y t =>
   have hyl : i < ys.length := by
    have := congrArg List.length hys
    simp at this; omega
   rw [List.drop_eq_getElem_cons hyl] at hys
   injection hys with hy1 hy2
   rw [List.drop_eq_getElem_cons hyl] at h
   generalize hxi : xs[i] = xi at h
   generalize hyi : ys[i] = yi at h
   unfold eqArr at h
   split at h
   ·rename_i h1; cases h1
   ·rename_i a1 x1 xs1 b1 y1 ys1 h1 h2
    injection h1 with h11 h12; injection h2 with h21 h22
    subst h11 h12 h21 h22
    split at h
    ·rename_i hk
     obtain ⟨rfl, rfl⟩ := hk
     obtain ⟨r', hr', rfl⟩ := xoM.1 h
     have e1 := (hx i _ (by rw [xgE hil, hxi])).v_eq.1
     have e2 := (hy i _ (by rw [xgE hyl, hyi])).v_eq.1
     have g1 : us.toArray[i]? = some (.int b1 x1) := by
      rw [e1, List.getElem?_toArray, xgD, xgE (by omega)]; rfl
     have g2 : vs.toArray[i]? = some (.int b1 y1) := by
      rw [e2, List.getElem?_toArray, xgD, xgE (by omega)]; rfl
     have := ih (i + 1) r' hr' (by omega) hu1 hv1 hx hy
     rw [List.range'_succ]
     have he : (Op.equalIn (d + 1) e (.int b1 x1) (.int b1 y1)).run P w = .ok (x1 == y1) w := by simp [Op.equalIn, run_underlying hu]
     simp only [List.forIn_cons, Sem.run_bind, Nat.mul_one, part_int hu g1, part_int hu g2, Result.andThen_ok, he]
     cases hxy : (x1 == y1) with
     | true => simpa [hxy] using this
     | false => simp
    ·cases h
   ·cases h
theorem isAggT_run {t : TypeId} {b : Bool} (h : isAggT P t = some b) : (isAgg t).run P w = .ok b w := by
 unfold isAggT at h
 obtain ⟨d, hd, hb⟩ := xoM.1 h
 unfold isAgg
 rw [Sem.run_bind, run_underlying hd w]
 cases d <;> simp_all
theorem sizeT_run {t : TypeId} {n : Nat} (h : sizeT P t = some n) : (sizeOf t).run P w = .ok n w := by
 unfold sizeT at h
 obtain ⟨d, hd, hb⟩ := xoM.1 h
 simp [sizeOf, typeInfo, hd, hb]
theorem part_run {cs : List AV} {arr : List Value} {off : Nat} {t : TypeId} {r : AV} (hl : arr.length = cs.length) (hc : ∀ (k : Nat) c, cs[k]? = some c → Rel F L c (arr.getD k undef)) (h : partA P t cs off = some r) :
  ∃ v, (part t arr.toArray off).run P w = .ok v w ∧ Rel F L r v := by
 unfold partA at h
 split at h
 ·rename_i n hagg hn
  split at h
  ·rename_i hle
   injection h with h; subst h
   refine ⟨.agg ((arr.drop off).take n).toArray, ?_, .agg _ _ (by simp [hl]) fun k c hk => ?_⟩
   ·simp [part, isAggT_run hagg, sizeT_run hn]
   ·rw [List.getElem?_take] at hk
    split at hk
    ·rename_i hkn
     rw [List.getElem?_drop] at hk
     have := hc _ _ hk
     rw [xgD] at this ⊢
     rw [List.getElem?_take, if_pos hkn, List.getElem?_drop]
     exact this
    ·cases hk
  ·cases h
 ·rename_i hagg
  have h1 := hc _ _ h
  have hlt : off < arr.length := hl ▸ (xgI.1 h).1
  rw [xgD, xgE hlt] at h1
  exact ⟨arr[off], by simp [part, isAggT_run hagg, hlt], h1⟩
 ·cases h
theorem eqA1_run {t : TypeId} {a b : AV} {r : Bool} {x y : Value} {d : Nat} (h : eqA1 P t a b = some r) (ha : Rel F L a x) (hb : Rel F L b y) : (Op.equalIn (d + 2) t x y).run P w = .ok r w := by
 unfold eqA1 at h
 split at h
 ·rename_i k i x' j y' hu
  split at h
  ·rename_i hk
   obtain ⟨rfl, rfl⟩ := hk
   injection h with h; subst h
   obtain ⟨rfl, _⟩ := ha.v_eq
   obtain ⟨rfl, _⟩ := hb.v_eq
   simp [Op.equalIn, run_underlying hu]
  ·cases h
 ·rename_i x' y' hu
  injection h with h; subst h
  obtain ⟨rfl, _⟩ := ha.v_eq
  obtain ⟨rfl, _⟩ := hb.v_eq
  simp [Op.equalIn, run_underlying hu]
 ·rename_i x' y' hu
  injection h with h; subst h
  obtain ⟨rfl, _⟩ := ha.v_eq
  obtain ⟨rfl, _⟩ := hb.v_eq
  simp [Op.equalIn, run_underlying hu]
 ·rename_i len e xs ys hu
  split at h
  ·rename_i k he
   split at h
   ·rename_i hc
    obtain ⟨c1, c2, c3⟩ := hc
    cases ha with
    | agg _ us hul hur =>
     cases hb with
     | agg _ vs hvl hvr =>
      have hs := sizeT_run (w := w) c1
      have hloop := equalIn_loop (P := P) (w := w) (F := F) (L := L) he (xs := xs) (ys := ys) (us := us) (vs := vs) (d := d) len 0 r (by simpa using h) (by omega) hul hvl hur hvr
      unfold Op.equalIn
      simp only [Sem.run_bind, run_underlying hu, Result.andThen_ok, hs]
      rw [Std.Legacy.Range.forIn_eq_forIn_range']
      simpa using hloop
   ·cases h
  ·cases h
 ·cases h
theorem eqF1_run {xs ys : List AV} {us vs : List Value} {d : Nat} (hul : us.length = xs.length) (hvl : vs.length = ys.length) (hx : ∀ (j : Nat) c, xs[j]? = some c → Rel F L c (us.getD j undef)) (hy : ∀ (j : Nat) c, ys[j]? = some c → Rel F L c (vs.getD j undef)) :
  ∀ (fs : List Field) (r : Bool), eqF1 P xs ys fs = some r →
  (do
   for f in fs do
    if f.name ≠ "_" then
     if !(← Op.equalIn (d + 2) f.type (← part f.type us.toArray f.offset) (← part f.type vs.toArray f.offset)) then return false
   pure true : Sem Bool).run P w = .ok r w := by
 intro fs
 induction fs with
 | nil => intro r h; injection h with h; subst h; simp
 | cons f fs ih =>
  intro r h
  unfold eqF1 at h
  split at h
  ·cases h
  ·rename_i hn
   obtain ⟨a, ha, h⟩ := xoB.1 h
   obtain ⟨b, hb, h⟩ := xoB.1 h
   obtain ⟨t, ht, h⟩ := xoB.1 h
   obtain ⟨u, hu, rfl⟩ := xoM.1 h
   obtain ⟨x, hx1, hx2⟩ := part_run (P := P) (w := w) hul hx ha
   obtain ⟨y, hy1, hy2⟩ := part_run (P := P) (w := w) hvl hy hb
   have he := eqA1_run (w := w) (d := d) ht hx2 hy2
   have := ih u hu
   simp only [List.forIn_cons, Sem.run_bind, hx1, hy1, he, Result.andThen_ok, ne_eq, hn, not_false_eq_true, if_true]
   cases t with
   | true => simpa using this
   | false => simp
theorem eqA2_run {t : TypeId} {a b : AV} {r : Bool} {x y : Value} {d : Nat} (h : eqA2 P t a b = some r) (ha : Rel F L a x) (hb : Rel F L b y) : (Op.equalIn (d + 3) t x y).run P w = .ok r w := by
 unfold eqA2 at h
 split at h
 ·rename_i fs xs ys hu
  split at h
  ·rename_i hsi
   cases ha with
   | agg _ us hul hur =>
    cases hb with
    | agg _ vs hvl hvr =>
     have := eqF1_run (P := P) (w := w) (d := d) hul hvl hur hvr fs.toList r h
     unfold Op.equalIn
     simp only [Sem.run_bind, run_underlying hu, Result.andThen_ok]
     simp only [run_program, Result.andThen_ok, hsi]
     simpa using this
  ·cases h
 ·exact eqA1_run (d := d + 1) h ha hb
theorem eqFs_run {xs ys : List AV} {us vs : List Value} {d : Nat} (hul : us.length = xs.length) (hvl : vs.length = ys.length) (hx : ∀ (j : Nat) c, xs[j]? = some c → Rel F L c (us.getD j undef)) (hy : ∀ (j : Nat) c, ys[j]? = some c → Rel F L c (vs.getD j undef)) :
  ∀ (fs : List Field) (r : Bool), eqFs P xs ys fs = some r →
  (do
   for f in fs do
    if f.name ≠ "_" then
     if !(← Op.equalIn (d + 3) f.type (← part f.type us.toArray f.offset) (← part f.type vs.toArray f.offset)) then return false
   pure true : Sem Bool).run P w = .ok r w := by
 intro fs
 induction fs with
 | nil => intro r h; injection h with h; subst h; simp
 | cons f fs ih =>
  intro r h
  unfold eqFs at h
  split at h
  ·cases h
  ·rename_i hn
   obtain ⟨a, ha, h⟩ := xoB.1 h
   obtain ⟨b, hb, h⟩ := xoB.1 h
   obtain ⟨t, ht, h⟩ := xoB.1 h
   obtain ⟨u, hu, rfl⟩ := xoM.1 h
   obtain ⟨x, hx1, hx2⟩ := part_run (P := P) (w := w) hul hx ha
   obtain ⟨y, hy1, hy2⟩ := part_run (P := P) (w := w) hvl hy hb
   have he := eqA2_run (w := w) (d := d) ht hx2 hy2
   have := ih u hu
   simp only [List.forIn_cons, Sem.run_bind, hx1, hy1, he, Result.andThen_ok, ne_eq, hn, not_false_eq_true, if_true]
   cases t with
   | true => simpa using this
   | false => simp
theorem bin_agg_run {op : BinOp} {xt : TypeId} {xo yo : Operand} {xs ys : List AV} {r : AV} {x y : Value} (h : binAgg P op xt xs ys = some r) (ha : Rel F L (.agg xs) x) (hb : Rel F L (.agg ys) y) :
  ∃ v, (do eqGuard op xt xo yo x y; binOp op xt x y : Sem Value).run P w = .ok v w ∧ Rel F L r v := by
 have fin : ∀ (t : Bool) (us vs : List Value), (Op.equalIn (9999 + 1) xt (.agg us.toArray) (.agg vs.toArray)).run P w = .ok t w → cmpB op t = some r → ∃ v, (binOp op xt (.agg us.toArray) (.agg vs.toArray)).run P w = .ok v w ∧ Rel F L r v := by
  intro t us vs heq h
  have hb2 := binOp_eql (P := P) (w := w) (xt := xt) (x := .agg us.toArray) (y := .agg vs.toArray) (t := t) (by simp) (by simp) (by simp) (by simp) heq
  unfold cmpB at h
  split at h
  ·injection h with h; subst h; exact ⟨_, hb2.1, wf_bool _⟩
  ·injection h with h; subst h; exact ⟨_, hb2.2, wf_bool _⟩
  ·cases h
 unfold binAgg at h
 split at h
 ·rename_i c4
  cases ha with
  | agg _ us hul hur =>
   cases hb with
   | agg _ vs hvl hvr =>
    rw [Sem.run_bind, run_eqGuard_agg _ _ _ _ _ _ _ c4]
    simp only [Result.andThen_ok]
    split at h
    ·obtain ⟨t, ht, h⟩ := xoB.1 h
     exact fin t us vs (eqA2_run (w := w) (d := 9997) ht (.agg _ us hul hur) (.agg _ vs hvl hvr)) h
    ·rename_i fs hu
     split at h
     ·rename_i hsi
      obtain ⟨t, ht, h⟩ := xoB.1 h
      refine fin t us vs ?_ h
      have := eqFs_run (P := P) (w := w) (d := 9996) hul hvl hur hvr fs.toList t ht
      unfold Op.equalIn
      simp only [Sem.run_bind, run_underlying hu, Result.andThen_ok]
      simp only [run_program, Result.andThen_ok, hsi]
      simpa using this
     ·cases h
    ·cases h
 ·cases h
theorem bin_run {op : BinOp} {xt : TypeId} {xo yo : Operand} {a b r : AV} {x y : Value} (h : bin P op xt a b = some r) (ha : Rel F L a x) (hb : Rel F L b y) :
    ∃ v, (do eqGuard op xt xo yo x y; binOp op xt x y : Sem Value).run P w = .ok v w ∧ Rel F L r v := by
  unfold bin at h
  split at h
  · rename_i k x' k' y'
    obtain ⟨rfl, _⟩ := ha.v_eq
    obtain ⟨rfl, _⟩ := hb.v_eq
    rw [Sem.run_bind, run_eqGuard_sc _ _ _ _ _ _ (by simp) (by simp)]
    simp only [Result.andThen_ok]
    split at h
    · split at h
      · cases h
      · rename_i hy
        injection h with h; subst h
        exact ⟨_, by simp [binOp, Op.shift, hy], .sc _ rfl⟩
    · split at h
      · cases h
      · rename_i hy
        injection h with h; subst h
        exact ⟨_, by simp [binOp, Op.shift, hy], .sc _ rfl⟩
    · split at h
      · rename_i hk; subst hk
        obtain ⟨v, hv, rfl⟩ := xoM.1 h
        refine ⟨v, ?_, ?_⟩
        · cases op <;> simp only [binI] at hv <;>
            first
            | (injection hv with hv; subst hv; simp [binOp, Op.intArith, Op.intBits, Op.intCmp]; done)
            | (injection hv with hv; subst hv; simp [binOp, Op.intArith, Op.intBits, Op.intCmp]; rfl)
            | (split at hv; cases hv; rename_i hy; injection hv with hv; subst hv; simp [binOp, Op.intDiv, hy]; done)
            | (cases hv; done)
            | simp_all
        · cases op <;> simp only [binI] at hv <;>
            first
            | (injection hv with hv; subst hv; exact .sc _ rfl)
            | (split at hv; cases hv; injection hv with hv; subst hv; exact .sc _ rfl)
            | (cases hv; done)
      · cases h
  · rename_i x' y'
    obtain ⟨rfl, _⟩ := ha.v_eq
    obtain ⟨rfl, _⟩ := hb.v_eq
    rw [Sem.run_bind, run_eqGuard_sc _ _ _ _ _ _ (by simp) (by simp)]
    simp only [Result.andThen_ok]
    obtain ⟨v, hv, rfl⟩ := xoM.1 h
    refine ⟨v, ?_, ?_⟩
    · cases op <;> simp only [binS] at hv <;>
        first
        | (injection hv with hv; subst hv; simp [binOp, Op.stringOp]; done)
        | (split at hv
           · rename_i hle
             injection hv with hv; subst hv
             have hm : IntKind.i64.max = 9223372036854775807 := by decide +kernel
             simp only [binOp, Op.stringOp, hm]
             rw [if_neg (by omega)]
             rfl
           · cases hv)
        | (cases hv; done)
    · cases op <;> simp only [binS] at hv <;>
        first
        | (injection hv with hv; subst hv; exact .sc _ rfl)
        | (split at hv
           · injection hv with hv; subst hv; exact .sc _ rfl
           · cases hv)
        | (cases hv; done)
  · rename_i x' y'
    obtain ⟨rfl, _⟩ := ha.v_eq
    obtain ⟨rfl, _⟩ := hb.v_eq
    rw [Sem.run_bind, run_eqGuard_sc _ _ _ _ _ _ (by simp) (by simp)]
    simp only [Result.andThen_ok]
    have e := fun t => binOp_eql (P := P) (w := w) (xt := xt) (x := .bool x') (y := .bool y') (t := t) (by simp) (by simp) (by simp) (by simp)
    split at h
    · rename_i hu
      injection h with h; subst h
      exact ⟨_, (e _ (equal_bool _ _ _ hu)).1, wf_bool _⟩
    · rename_i hu
      injection h with h; subst h
      exact ⟨_, (e _ (equal_bool _ _ _ hu)).2, wf_bool _⟩
    · cases h
  · cases ha
    rename_i B hB
    obtain ⟨rfl, _⟩ := hb.v_eq
    rw [Sem.run_bind, run_eqGuard_sc _ _ _ _ _ _ (by simp) (by simp)]
    simp only [Result.andThen_ok]
    split at h
    · rename_i hu
      injection h with h; subst h
      exact ⟨_, (binOp_eql (by simp) (by simp) (by simp) (by simp) (equal_ptr_nil _ _ hu)).1, wf_bool _⟩
    · rename_i hu
      injection h with h; subst h
      exact ⟨_, (binOp_eql (by simp) (by simp) (by simp) (by simp) (equal_ptr_nil _ _ hu)).2, wf_bool _⟩
    · cases h
  · obtain ⟨rfl, _⟩ := ha.v_eq
    obtain ⟨rfl, _⟩ := hb.v_eq
    rw [Sem.run_bind, run_eqGuard_sc _ _ _ _ _ _ (by simp) (by simp)]
    simp only [Result.andThen_ok]
    split at h
    · rename_i hu
      injection h with h; subst h
      exact ⟨_, (binOp_eql (by simp) (by simp) (by simp) (by simp) (equal_nil_nil _ hu)).1, wf_bool _⟩
    · rename_i hu
      injection h with h; subst h
      exact ⟨_, (binOp_eql (by simp) (by simp) (by simp) (by simp) (equal_nil_nil _ hu)).2, wf_bool _⟩
    · cases h
  · exact bin_agg_run h ha hb
  · cases h
theorem un1_run {op : UnOp} {a r : AV} {x : Value} (h : un1 op a = some r) (ha : Rel F L a x) : ∃ v, (Op.unary op x).run P w = .ok v w ∧ Rel F L r v := by
 unfold un1 at h
 split at h
 ·obtain ⟨rfl, _⟩ := ha.v_eq
  injection h with h; subst h
  exact ⟨_, by simp [Op.unary, Op.intArith], .sc _ rfl⟩
 ·obtain ⟨rfl, _⟩ := ha.v_eq
  obtain ⟨v, hv, rfl⟩ := xoM.1 h
  simp only [binI] at hv
  injection hv with hv; subst hv
  exact ⟨_, by simp [Op.unary, Op.intBits], .sc _ rfl⟩
 ·obtain ⟨rfl, _⟩ := ha.v_eq
  injection h with h; subst h
  exact ⟨_, by simp [Op.unary], .sc _ rfl⟩
 ·cases h
def addF (F : Facts) (B : Nat) (vs : List Value) : Facts := ⟨fun b i => if b = B then vs[i]? else F b i, F.room⟩
theorem addF_get {F : Facts} {B : Nat} {vs : List Value} {b i : Nat} : addF F B vs b i = if b = B then vs[i]? else F b i := rfl
theorem St.ltF {X : Nat → Prop} {H : Heap} (hS : St P F L X w H) {B i : Nat} {v : Value} (h : F B i = some v) : B < w.heap.size := by
 have := (hS.mem _ _ _ h).1
 exact World.block_lt_of_cell? w ⟨B, i, none⟩ this
theorem St.ltL {X : Nat → Prop} {H : Heap} (hS : St P F L X w H) {B : Nat} (h : B ∈ L) : B < w.heap.size := hS.lt B h
theorem cell?_eq {w : World} {B i : Nat} {arr : List Value} {t : TypeId} {fr : Nat × Nat} (h : w.heap[B]? = some (.cells arr.toArray t fr)) : w.cell? ⟨B, i, none⟩ = arr[i]? := by
 simp [World.cell?, h]
theorem cell?_same {w w' : World} {B i : Nat} (h : w'.heap[B]? = w.heap[B]?) : w'.cell? ⟨B, i, none⟩ = w.cell? ⟨B, i, none⟩ := by
 simp [World.cell?, h]
structure Grew (w w' : World) (arr : List Value) (t : TypeId) (fr : Nat × Nat) : Prop where
 size : w'.heap.size = w.heap.size + 1
 old : ∀ B, B < w.heap.size → w'.heap[B]? = w.heap[B]?
 new : w'.heap[w.heap.size]? = some (.cells arr.toArray t fr)
 rest : w'.os = w.os ∧ w'.tape = w.tape ∧ w'.output = w.output
theorem Grew.alloc (w : World) (arr : List Value) (t : TypeId) : Grew w (w.alloc (.cells arr.toArray t)) arr t (0, 0) :=
 ⟨by simp, fun B hB => Go.heap_alloc_old w _ B hB, Go.heap_alloc_new w _, rfl, rfl, rfl⟩
theorem St.row {X : Nat → Prop} {H : Heap} (hS : St P F L X w H) {w' : World} {arr : List Value} {t : TypeId} {fr : Nat × Nat} (hg : Grew w w' arr t fr) (vs : List Value) (hv : ∀ (i : Nat) v, vs[i]? = some v → arr[i]? = some v ∧ v.oneCell' = true) :
  St P (addF F w.heap.size vs) L X w' H ∧ Goes (fun _ => False) F L w (addF F w.heap.size vs) L w' := by
 have hm : ∀ B i v, F B i = some v → addF F w.heap.size vs B i = some v := by
  intro B i v h
  have := hS.ltF h
  rw [addF_get, if_neg (by omega)]
  exact h
 have hgo : Goes (fun _ => False) F L w (addF F w.heap.size vs) L w' :=
  ⟨by have := hg.size; omega, fun B hB _ _ => ⟨hg.old B hB, fun i => by rw [addF_get, if_neg (by omega)]⟩, hm, fun _ _ h => h, fun _ h => .inl h, hg.rest, fun _ => Nat.le_refl _⟩
 refine ⟨⟨fun B i v h => ?_, hS.len, fun j cs B hj hne hmv hB => ?_, fun B hB => by have := hS.lt B hB; have := hg.size; omega, fun j cs B hj hne hB i hi => ?_, hS.nox, hS.inj, fun B hB => ?_, fun B hB => hS.room0 B (by have := hg.size; omega), fun j ks vs B hj hB => ?_, hS.rm⟩, hgo⟩
 ·rw [addF_get] at h
  split at h
  ·rename_i hb
   subst hb
   obtain ⟨h1, h2⟩ := hv _ _ h
   exact ⟨by rw [cell?_eq hg.new]; exact h1, h2⟩
  ·obtain ⟨h1, h2⟩ := hS.mem _ _ _ h
   exact ⟨by rw [cell?_same (hg.old B (hS.ltF h))]; exact h1, h2⟩
 ·obtain ⟨arr', t', h1, h2, h3, h4⟩ := hS.obj j cs B hj hne hmv hB
  exact ⟨arr', t', h1.same (hg.old B (hS.ltL (mem_of_get hB))), h2, h3, fun k c hk => (h4 k c hk).goes hgo⟩
 ·have := hS.ltL (mem_of_get hB)
  rw [addF_get, if_neg (by omega)]
  exact hS.nof j cs B hj hne hB i hi
 ·have := hS.xlt B hB
  have := hg.size
  omega
 ·exact (hS.mob j ks vs B hj hB).goes hgo (hg.old B (hS.ltL (mem_of_get hB)))
theorem St.varR {X : Nat → Prop} {H : Heap} (hS : St P F L X w H) {w' : World} {arr : List Value} {t : TypeId} {fr : Nat × Nat} (hg : Grew w w' arr t fr) (cs : List AV) (room : Nat) (hroom : room ≤ arr.length) (hmc : isMv cs = false) (hl' : cs.length ≤ room) (hr : ∀ (k : Nat) c, cs[k]? = some c → Rel F L c (arr.getD k undef)) (hfr : arr.length ≤ fr.1 ∨ fr = (0, 0) := by exact .inr rfl) :
  ∃ F' : Facts, F'.get = F.get ∧ (∀ b, F'.room b = if b = w.heap.size then room else F.room b) ∧ St P F' (L ++ [w.heap.size]) X w' (H ++ [cs]) ∧ Goes (fun _ => False) F L w F' (L ++ [w.heap.size]) w' := by
 have hl : cs.length ≤ arr.length := Nat.le_trans hl' hroom
 obtain ⟨F', hFg, hFr⟩ : ∃ F' : Facts, F'.get = F.get ∧ ∀ b, F'.room b = if b = w.heap.size then room else F.room b := ⟨⟨F.get, fun b => if b = w.heap.size then room else F.room b⟩, rfl, fun _ => rfl⟩
 have hget : ∀ b i, F' b i = F b i := fun b i => by rw [hFg]
 have hpre : ∀ (j B : Nat), L[j]? = some B → (L ++ [w.heap.size])[j]? = some B := by
  intro j B h
  rw [xgL (xgI.1 h).1]
  exact h
 have hrm : ∀ B, F.room B ≤ F'.room B := by
  intro B
  rw [hFr]
  split
  ·rename_i h; rw [hS.room0 B (by omega)]; exact Nat.zero_le _
  ·exact Nat.le_refl _
 have hgo : Goes (fun _ => False) F L w F' (L ++ [w.heap.size]) w' :=
  ⟨by have := hg.size; omega, fun B hB _ _ => ⟨hg.old B hB, fun i => hget B i⟩, fun B i v h => by rw [hget]; exact h, hpre, fun B h => by
   rcases List.mem_append.1 h with h | h
   ·exact .inl h
   ·simp at h; exact .inr (by omega), hg.rest, hrm⟩
 have old : ∀ (j : Nat) cs' B, (H ++ [cs])[j]? = some cs' → (L ++ [w.heap.size])[j]? = some B → (H[j]? = some cs' ∧ L[j]? = some B) ∨ (j = L.length ∧ cs' = cs ∧ B = w.heap.size) := by
  intro j cs' B hj hB
  rcases Nat.lt_or_ge j L.length with hjl | hjl
  ·rw [xgL hjl] at hB
   rw [xgL (hS.len ▸ hjl)] at hj
   exact .inl ⟨hj, hB⟩
  ·rw [xgR hjl] at hB
   rw [xgR (hS.len ▸ hjl)] at hj
   have h0 : j - L.length = 0 := by
    have := (xgI.1 hB).1
    simp at this
    omega
   rw [h0] at hB
   rw [← hS.len, h0] at hj
   simp at hB hj
   exact .inr ⟨by omega, hj.symm, hB.symm⟩
 refine ⟨F', hFg, hFr, ⟨fun B i v h => ?_, by simp [hS.len], fun j cs' B hj hne hmv hB => ?_, fun B hB => ?_, fun j cs' B hj hne hB i hi => ?_, fun B hB => ?_, fun i j cs1 cs2 B hi hn1 hj hn2 hBi hBj => ?_, fun B hB => ?_, fun B hB => ?_, fun j ks vs B hj hB => ?_, fun j cs' B hj hpl hB => ?_⟩, hgo⟩
 ·rw [hget] at h
  obtain ⟨h1, h2⟩ := hS.mem _ _ _ h
  exact ⟨by rw [cell?_same (hg.old B (hS.ltF h))]; exact h1, h2⟩
 ·rcases old j cs' B hj hB with ⟨h1, h2⟩ | ⟨h1, rfl, rfl⟩
  ·obtain ⟨arr', t', h3, h4, h5, h6⟩ := hS.obj j cs' B h1 hne hmv h2
   have hlt := hS.ltL (mem_of_get h2)
   exact ⟨arr', t', h3.same (hg.old B hlt), h4, by rw [hFr, if_neg (by omega)]; exact h5, fun k c hk => (h6 k c hk).goes hgo⟩
  ·exact ⟨arr, t, ⟨fr, hg.new, hfr⟩, hl, by rw [hFr, if_pos rfl]; exact hroom, fun k c hk => (hr k c hk).goes hgo⟩
 ·have := hg.size
  rcases List.mem_append.1 hB with h | h
  ·have := hS.lt B h; omega
  ·simp at h; omega
 ·rw [hget]
  rcases old j cs' B hj hB with ⟨h1, h2⟩ | ⟨h1, rfl, rfl⟩
  ·exact hS.nof j cs' B h1 hne h2 i hi
  ·cases hf : F w.heap.size i with
   | none => rfl
   | some v => have := hS.ltF hf; omega
 ·rcases List.mem_append.1 hB with h | h
  ·exact hS.nox B h
  ·simp at h
   subst h
   intro hx
   have := hS.xlt _ hx
   omega
 ·rcases old i cs1 B hi hBi with ⟨h1, h2⟩ | ⟨h1, h1', h1''⟩ <;> rcases old j cs2 B hj hBj with ⟨h3, h4⟩ | ⟨h3, h3', h3''⟩
  ·exact hS.inj i j cs1 cs2 B h1 hn1 h3 hn2 h2 h4
  ·subst h3''; have := hS.ltL (mem_of_get h2); omega
  ·subst h1''; have := hS.ltL (mem_of_get h4); omega
  ·omega
 ·have := hS.xlt B hB
  have := hg.size
  omega
 ·rw [hFr, if_neg (by have := hg.size; omega)]
  exact hS.room0 B (by have := hg.size; omega)
 ·rcases old j _ B hj hB with ⟨h1, h2⟩ | ⟨h1, h2, h3⟩
  ·exact (hS.mob j ks vs B h1 h2).goes hgo (hg.old B (hS.ltL (mem_of_get h2)))
  ·rw [← h2] at hmc; cases hmc
 ·rcases old j _ B hj hB with ⟨h1, h2⟩ | ⟨h1, rfl, rfl⟩
  ·exact Nat.le_trans (hS.rm j cs' B h1 hpl h2) (hrm B)
  ·rw [hFr, if_pos rfl]; exact hl'
theorem Facts.ext' {F F' : Facts} (h1 : F'.get = F.get) (h2 : ∀ b, F'.room b = F.room b) : F' = F := by
 cases F; cases F'
 simp only at h1 h2
 subst h1
 rw [funext h2]
theorem St.var {X : Nat → Prop} {H : Heap} (hS : St P F L X w H) {w' : World} {arr : List Value} {t : TypeId} {fr : Nat × Nat} (hg : Grew w w' arr t fr) (cs : List AV) (hmc : isMv cs = false) (hl : arr.length = cs.length) (hr : ∀ (k : Nat) c, cs[k]? = some c → Rel F L c (arr.getD k undef)) (hfr : arr.length ≤ fr.1 ∨ fr = (0, 0) := by exact .inr rfl) :
  ∃ F', St P F' (L ++ [w.heap.size]) X w' (H ++ [cs]) ∧ Goes (fun _ => False) F L w F' (L ++ [w.heap.size]) w' := by
 obtain ⟨F', h1, h2, h3, h4⟩ := hS.varR hg cs arr.length (Nat.le_refl _) hmc (by omega) hr hfr
 exact ⟨F', h3, h4⟩
end
end Go.Lv
