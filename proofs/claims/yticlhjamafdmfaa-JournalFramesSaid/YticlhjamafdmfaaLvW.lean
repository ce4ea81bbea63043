import Derived.Test.YticlhjamafdmfaaLvP
set_option linter.unusedVariables false
set_option linter.unusedSimpArgs false
/-! Stepping through code by rewriting. -/
namespace Go.Lv

/-! ### More fuel -/
def CLe (c1 c2 : CallF) : Prop := ∀ f a H r, c1 f a H = some r → c2 f a H = some r

theorem stepB_mono {P : Program} {C : Cfg} {c1 c2 : CallF} (hc : CLe c1 c2) {e : Env} {H : Heap} {o : Op} {r} (h : stepB P C c1 e H o = some r) : stepB P C c2 e H o = some r := by
  unfold stepB at h ⊢
  split at h
  · split at h
    · exact hc _ _ _ _ h
    · split at h
      · rename_i hd
        rw [if_pos hd]; exact hc _ _ _ _ h
      · cases h
    · cases h
  · exact h

theorem stepA_mono {P : Program} {C : Cfg} {c1 c2 : CallF} (hc : CLe c1 c2) {d : Option Nat} {e : Env} {H : Heap} {o : Op} {r} (h : stepA P C c1 d e H o = some r) : stepA P C c2 d e H o = some r := by
  unfold stepA at h ⊢
  split at h
  · rename_i hm; rw [if_pos hm]; exact h
  · rename_i hm; rw [if_neg hm]; exact stepB_mono hc h

theorem lops_mono {P : Program} {C : Cfg} {c1 c2 : CallF} (hc : CLe c1 c2) (all : Array Oper) : ∀ (l : List Oper) (e : Env) (H : Heap) r, lops P C c1 all l e H = some r → lops P C c2 all l e H = some r := by
  intro l
  induction l with
  | nil => intro e H r h; exact h
  | cons o l ih =>
    intro e H r h
    unfold lops at h ⊢
    cases hw : wants all e o with
    | none => rw [hw] at h; cases h
    | some t =>
      rw [hw] at h
      cases t with
      | false => exact ih _ _ _ h
      | true =>
        obtain ⟨⟨a, H'⟩, h1, h2⟩ := Option.bind_eq_some_iff.1 h
        rw [stepA_mono hc h1]
        exact ih _ _ _ h2

theorem lopsD_mono {P : Program} {C : Cfg} {c1 c2 : CallF} (hc : CLe c1 c2) (all : Array Oper) : ∀ (l : List Oper) (i : Nat) (e : Env) (H : Heap) (S : Seen) r, lopsD P C c1 all i l e H S = some r → lopsD P C c2 all i l e H S = some r := by
  intro l
  induction l with
  | nil => intro i e H S r h; exact h
  | cons o l ih =>
    intro i e H S r h
    unfold lopsD at h ⊢
    cases hw : wants all e o with
    | none => rw [hw] at h; cases h
    | some t =>
      rw [hw] at h
      cases t with
      | false => exact ih _ _ _ _ _ h
      | true =>
        obtain ⟨⟨a, H'⟩, h1, h2⟩ := Option.bind_eq_some_iff.1 h
        obtain ⟨S', h3, h4⟩ := Option.bind_eq_some_iff.1 h2
        rw [stepA_mono hc h1]
        simp only [Option.bind_some, h3]
        exact ih _ _ _ _ _ h4

theorem lcode_mono {P : Program} {C : Cfg} {c1 c2 : CallF} (hc : CLe c1 c2) : ∀ (m n : Nat), m ≤ n → ∀ (c : Code) (e : Env) (H : Heap) y, lcode P C c1 m c e H = some y → lcode P C c2 n c e H = some y := by
  intro m
  induction m with
  | zero => intro n _ c e H y h; cases h
  | succ m ih =>
    intro n hn c e H y h
    obtain ⟨n, rfl⟩ : ∃ k, n = k + 1 := ⟨n - 1, by omega⟩
    have ih := ih n (by omega)
    cases c with
    | seq a b =>
      simp only [lcode] at h ⊢
      split at h
      · rename_i e1 H1 h1
        rw [ih a e H _ h1]
        exact ih b e1 H1 y h
      · rename_i hne
        rw [ih a e H _ h]
        obtain ⟨x, e1, H1⟩ := y
        cases x with
        | normal => exact absurd h (hne e1 H1)
        | exit i => rfl
        | ret => rfl
    | cond c a b =>
      simp only [lcode] at h ⊢
      split at h
      · rename_i t ht
        cases t with
        | true => exact ih a e H y (by simpa using h)
        | false => exact ih b e H y (by simpa using h)
      · cases h
    | block id a =>
      simp only [lcode] at h ⊢
      split at h
      · rename_i i e1 H1 h1
        rw [ih a e H _ h1]
        exact h
      · rename_i hne
        rw [ih a e H _ h]
        obtain ⟨x, e1, H1⟩ := y
        cases x with
        | normal => rfl
        | exit i => exact absurd h (hne i e1 H1)
        | ret => rfl
    | loop a =>
      simp only [lcode] at h ⊢
      split at h
      · rename_i e1 H1 h1
        rw [ih a e H _ h1]
        exact ih (.loop a) e1 H1 y h
      · rename_i hne
        rw [ih a e H _ h]
        obtain ⟨x, e1, H1⟩ := y
        cases x with
        | normal => exact absurd h (hne e1 H1)
        | exit i => rfl
        | ret => rfl
    | skip => exact h
    | region id ops d =>
      cases d with
      | false =>
        simp only [lcode] at h ⊢
        obtain ⟨r, h1, h2⟩ := Option.map_eq_some_iff.1 h
        rw [lops_mono hc _ _ _ _ _ h1, Option.map_some, h2]
      | true =>
        simp only [lcode] at h ⊢
        obtain ⟨r, h1, h2⟩ := Option.map_eq_some_iff.1 h
        rw [lopsD_mono hc _ _ _ _ _ _ _ h1, Option.map_some, h2]
    | exit id => exact h
    | ret => exact h
    | _ => cases h

theorem lcall_succ {P : Program} {C : Cfg} : ∀ n, CLe (lcall P C n) (lcall P C (n + 1)) := by
  intro n
  induction n with
  | zero => intro f a H r h; cases h
  | succ n ih =>
    intro f a H r h
    rw [lcall] at h ⊢
    split at h
    · rename_i g hg; exact h
    · rename_i hg
      by_cases hok : C.ok f = true
      · rw [if_pos hok] at h ⊢
        cases hfn : P.funcs[f]? with
        | none => rw [hfn] at h; cases h
        | some fn =>
          rw [hfn] at h
          simp only at h ⊢
          cases hb : fn.body with
          | none => rw [hb] at h; cases h
          | some c =>
            rw [hb] at h
            simp only at h ⊢
            cases hl : lcode P (C.at f) (lcall P C n) n c (env0 a) H with
            | none => rw [hl] at h; cases h
            | some y =>
              rw [hl] at h
              rw [lcode_mono ih n (n + 1) (by omega) c _ _ _ hl]
              exact h
      · rw [if_neg hok] at h; cases h

theorem lcall_le {P : Program} {C : Cfg} {m n : Nat} (h : m ≤ n) : CLe (lcall P C m) (lcall P C n) := by
  induction h with
  | refl => exact fun f a H r h => h
  | step _ ih => exact fun f a H r h => lcall_succ _ f a H r (ih f a H r h)

theorem lcall_at {P : Program} {C : Cfg} {f : FuncId} : ∀ n, lcall P (C.at f) n = lcall P C n := by
  intro n
  induction n with
  | zero => rfl
  | succ n ih =>
    funext g args H
    rw [lcall, lcall, ih]
    rfl

/-! ### What holds behind -/
def WF (P : Program) (C : Cfg) (f : FuncId) (args : List AV) (H : Heap) (Q : AV → Heap → Prop) : Prop := ∃ n r H', lcall P C n f args H = some (r, H') ∧ Q r H'
def WC (P : Program) (C : Cfg) (c : Code) (e : Env) (H : Heap) (Q : Ex → Env → Heap → Prop) : Prop := ∃ n x e' H', lcode P C (lcall P C n) n c e H = some (x, e', H') ∧ Q x e' H'
def WO (P : Program) (C : Cfg) (all : Array Oper) (l : List Oper) (e : Env) (H : Heap) (Q : Env → Heap → Prop) : Prop := ∃ n e' H', lops P C (lcall P C n) all l e H = some (e', H') ∧ Q e' H'
def WD (P : Program) (C : Cfg) (all : Array Oper) (i : Nat) (l : List Oper) (e : Env) (H : Heap) (S : Seen) (Q : Env → Heap → Prop) : Prop := ∃ n e' H', lopsD P C (lcall P C n) all i l e H S = some (e', H') ∧ Q e' H'
def WS (P : Program) (C : Cfg) (d : Option Nat) (e : Env) (H : Heap) (o : Op) (Q : AV → Heap → Prop) : Prop := ∃ n a H', stepA P C (lcall P C n) d e H o = some (a, H') ∧ Q a H'

section
variable {P : Program} {C : Cfg}

theorem WF.mono {f args H} {Q Q' : AV → Heap → Prop} (h : WF P C f args H Q) (hq : ∀ r H', Q r H' → Q' r H') : WF P C f args H Q' := by
  obtain ⟨n, r, H', h1, h2⟩ := h; exact ⟨n, r, H', h1, hq _ _ h2⟩
theorem WC.mono {c e H} {Q Q' : Ex → Env → Heap → Prop} (h : WC P C c e H Q) (hq : ∀ x e' H', Q x e' H' → Q' x e' H') : WC P C c e H Q' := by
  obtain ⟨n, x, e', H', h1, h2⟩ := h; exact ⟨n, x, e', H', h1, hq _ _ _ h2⟩

/-- Behind a first piece of code. -/
def qSeq (P : Program) (C : Cfg) (b : Code) (Q : Ex → Env → Heap → Prop) : Ex → Env → Heap → Prop
  | .normal, e, H => WC P C b e H Q
  | x, e, H => Q x e H
def qBlock (id : Nat) (Q : Ex → Env → Heap → Prop) : Ex → Env → Heap → Prop
  | .exit i, e, H => if i = id then Q .normal e H else Q (.exit i) e H
  | x, e, H => Q x e H

theorem lc_le {m n : Nat} (h : m ≤ n) {c e H y} (h1 : lcode P C (lcall P C m) m c e H = some y) : lcode P C (lcall P C n) n c e H = some y := lcode_mono (lcall_le h) m n h c e H y h1

theorem WC.skip {e H Q} (h : Q .normal e H) : WC P C .skip e H Q := ⟨1, _, _, _, rfl, h⟩
theorem WC.exit {id e H Q} (h : Q (.exit id) e H) : WC P C (.exit id) e H Q := ⟨1, _, _, _, rfl, h⟩
theorem WC.ret {e H Q} (h : Q .ret e H) : WC P C .ret e H Q := ⟨1, _, _, _, rfl, h⟩
theorem WC.seq {a b e H Q} (h : WC P C a e H (qSeq P C b Q)) : WC P C (.seq a b) e H Q := by
  obtain ⟨n, x, e', H', h1, h2⟩ := h
  cases x with
  | normal =>
    obtain ⟨m, x, e2, H2, h3, h4⟩ := h2
    refine ⟨max m n + 1, x, e2, H2, ?_, h4⟩
    rw [lcode, lcode_mono (lcall_le (by omega)) n (max m n) (by omega) _ _ _ _ h1]
    exact lcode_mono (lcall_le (by omega)) m (max m n) (by omega) _ _ _ _ h3
  | exit i =>
    refine ⟨n + 1, _, _, _, ?_, h2⟩
    rw [lcode, lcode_mono (lcall_le (by omega)) n n (by omega) _ _ _ _ h1]
  | ret =>
    refine ⟨n + 1, _, _, _, ?_, h2⟩
    rw [lcode, lcode_mono (lcall_le (by omega)) n n (by omega) _ _ _ _ h1]
theorem WC.block {id a e H Q} (h : WC P C a e H (qBlock id Q)) : WC P C (.block id a) e H Q := by
  obtain ⟨n, x, e', H', h1, h2⟩ := h
  have h1 := lcode_mono (P := P) (C := C) (lcall_le (Nat.le_succ n)) n n (Nat.le_refl n) _ _ _ _ h1
  cases x with
  | normal => exact ⟨n + 1, _, _, _, by rw [lcode, h1], h2⟩
  | exit i =>
    simp only [qBlock] at h2
    by_cases hi : i = id
    · rw [if_pos hi] at h2
      exact ⟨n + 1, _, _, _, by rw [lcode, h1]; simp only [if_pos hi], h2⟩
    · rw [if_neg hi] at h2
      exact ⟨n + 1, _, _, _, by rw [lcode, h1]; simp only [if_neg hi], h2⟩
  | ret => exact ⟨n + 1, _, _, _, by rw [lcode, h1], h2⟩
theorem WC.cond {c a b e H Q} (t : Bool) (hc : ev e c = .b t) (h1 : t = true → WC P C a e H Q) (h0 : t = false → WC P C b e H Q) : WC P C (.cond c a b) e H Q := by
  cases t with
  | true =>
    obtain ⟨n, x, e', H', h, hq⟩ := h1 rfl
    exact ⟨n + 1, _, _, _, by rw [lcode, hc]; simpa using lcode_mono (P := P) (C := C) (lcall_le (Nat.le_succ n)) n n (Nat.le_refl n) _ _ _ _ h, hq⟩
  | false =>
    obtain ⟨n, x, e', H', h, hq⟩ := h0 rfl
    exact ⟨n + 1, _, _, _, by rw [lcode, hc]; simpa using lcode_mono (P := P) (C := C) (lcall_le (Nat.le_succ n)) n n (Nat.le_refl n) _ _ _ _ h, hq⟩
theorem WC.loop1 {a e H Q} (h : WC P C a e H (qSeq P C (.loop a) Q)) : WC P C (.loop a) e H Q := by
  obtain ⟨n, x, e', H', h1, h2⟩ := h
  cases x with
  | normal =>
    obtain ⟨m, x, e2, H2, h3, h4⟩ := h2
    refine ⟨max m n + 1, x, e2, H2, ?_, h4⟩
    rw [lcode, lcode_mono (lcall_le (by omega)) n (max m n) (by omega) _ _ _ _ h1]
    exact lcode_mono (lcall_le (by omega)) m (max m n) (by omega) _ _ _ _ h3
  | exit i =>
    refine ⟨n + 1, _, _, _, ?_, h2⟩
    rw [lcode, lcode_mono (lcall_le (by omega)) n n (by omega) _ _ _ _ h1]
  | ret =>
    refine ⟨n + 1, _, _, _, ?_, h2⟩
    rw [lcode, lcode_mono (lcall_le (by omega)) n n (by omega) _ _ _ _ h1]

/-- A loop: something kept, and something that falls. -/
def qLoop {σ : Type} (I : σ → Env → Heap → Prop) (m : σ → Nat) (s : σ) (Q : Ex → Env → Heap → Prop) : Ex → Env → Heap → Prop
  | .normal, e, H => ∃ s', I s' e H ∧ m s' < m s
  | x, e, H => Q x e H

theorem WC.loop {σ : Type} (I : σ → Env → Heap → Prop) (m : σ → Nat) {a e H Q} (s : σ) (h0 : I s e H) (step : ∀ s e H, I s e H → WC P C a e H (qLoop I m s Q)) : WC P C (.loop a) e H Q := by
  have key : ∀ k s e H, m s < k → I s e H → WC P C (.loop a) e H Q := by
    intro k
    induction k with
    | zero => intro s e H h; omega
    | succ k ih =>
      intro s e H hk hI
      refine WC.loop1 ((step s e H hI).mono ?_)
      intro x e' H' hx
      cases x with
      | normal =>
        obtain ⟨s', h1, h2⟩ := hx
        exact ih s' e' H' (by omega) h1
      | exit i => exact hx
      | ret => exact hx
  exact key (m s + 1) s e H (by omega) h0

theorem WC.region {id ops e H Q} (h : WO P C ops ops.toList e H (Q .normal)) : WC P C (.region id ops false) e H Q := by
  obtain ⟨n, e', H', h1, h2⟩ := h
  exact ⟨n + 1, _, _, _, by rw [lcode, lops_mono (lcall_le (Nat.le_succ n)) _ _ _ _ _ h1]; rfl, h2⟩
theorem WC.regionD {id ops e H Q} (h : WD P C ops 0 ops.toList e H {} (Q .normal)) : WC P C (.region id ops true) e H Q := by
  obtain ⟨n, e', H', h1, h2⟩ := h
  exact ⟨n + 1, _, _, _, by rw [lcode, lopsD_mono (lcall_le (Nat.le_succ n)) _ _ _ _ _ _ _ h1]; rfl, h2⟩

theorem WF.at {f g : FuncId} {args : List AV} {H : Heap} {Q : AV → Heap → Prop} : WF P (C.at f) g args H Q = WF P C g args H Q := by
  unfold WF
  simp only [lcall_at]

theorem WF.call {f args H Q} {fn : Func} {c : Code} (he : C.ext f = none) (hok : C.ok f = true) (hf : P.funcs[f]? = some fn) (hb : fn.body = some c)
    (h : WC P (C.at f) c (env0 args) H (fun x e H' => (∀ i, x ≠ .exit i) ∧ ∃ a, resultsA P fn e H' = some a ∧ Q a H')) : WF P C f args H Q := by
  obtain ⟨n, x, e', H', h1, h2, a, h3, h4⟩ := h
  rw [lcall_at] at h1
  refine ⟨n + 1, a, H', ?_, h4⟩
  rw [lcall, he]
  simp only [if_pos hok, hf, hb, h1]
  cases x with
  | exit i => exact absurd rfl (h2 i)
  | normal => simp [h3]
  | ret => simp [h3]

theorem WF.ext {f args H Q g r H'} (he : C.ext f = some g) (h : g args H = some (r, H')) (hq : Q r H') : WF P C f args H Q :=
  ⟨1, r, H', by rw [lcall, he]; exact h, hq⟩

/-! ### Operations -/
theorem WO.nil {all e H Q} (h : Q e H) : WO P C all [] e H Q := ⟨0, _, _, rfl, h⟩
theorem WO.step {all o r e H Q} (hw : wants all e o = some true) (h : WS P C o.dst e H o.op (fun a H' => WO P C all r (put e o.dst a) H' Q)) : WO P C all (o :: r) e H Q := by
  obtain ⟨n, a, H', h1, m, e2, H2, h2, h3⟩ := h
  refine ⟨max m n, e2, H2, ?_, h3⟩
  rw [lops, hw]
  simp only [stepA_mono (lcall_le (Nat.le_max_right m n)) h1, Option.bind_some]
  exact lops_mono (lcall_le (Nat.le_max_left m n)) _ _ _ _ _ h2
theorem WO.pass {all o r e H Q} (hw : wants all e o = some false) (h : WO P C all r (put e o.dst skipA) H Q) : WO P C all (o :: r) e H Q := by
  obtain ⟨n, e2, H2, h2, h3⟩ := h
  refine ⟨n, e2, H2, ?_, h3⟩
  rw [lops, hw]
  exact h2
theorem WD.nil {all i e H S Q} (h : Q e H) : WD P C all i [] e H S Q := ⟨0, _, _, rfl, h⟩
theorem WD.pass {all i o r e H S Q} (hw : wants all e o = some false) (h : WD P C all (i + 1) r (put e o.dst skipA) H S Q) : WD P C all i (o :: r) e H S Q := by
  obtain ⟨n, e2, H2, h2, h3⟩ := h
  refine ⟨n, e2, H2, ?_, h3⟩
  rw [lopsD, hw]
  exact h2
theorem WD.step {all i o r e H S Q} (hw : wants all e o = some true) (h : WS P C o.dst e H o.op (fun a H' => ∃ S', seenOK P all i e S o.op a H H' = some S' ∧ WD P C all (i + 1) r (put e o.dst a) H' S' Q)) : WD P C all i (o :: r) e H S Q := by
  obtain ⟨n, a, H', h1, S', h0, m, e2, H2, h2, h3⟩ := h
  refine ⟨max m n, e2, H2, ?_, h3⟩
  rw [lopsD, hw]
  simp only [stepA_mono (lcall_le (Nat.le_max_right m n)) h1, Option.bind_some, h0]
  exact lopsD_mono (lcall_le (Nat.le_max_left m n)) _ _ _ _ _ _ _ h2
end

end Go.Lv
