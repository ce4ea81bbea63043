/- A value semantics of the loaded code, its soundness, and walks through functions over it. -/
import Derived.Test.YtfkjkmjkfnephaaGreatDoorLvAll6
set_option linter.unusedVariables false
set_option linter.unusedSimpArgs false
namespace Go.Lv
class K (α : Sort _) where
 v : α
def bindP {α : Type} (x : Option α) [k : K (α → Prop)] : Prop := ∃ a, x = some a ∧ k.v a
@[go_sem] theorem bindP_some {α : Type} {a : α} {k : α → Prop} : @bindP α (some a) ⟨k⟩ = k a := by simp [bindP]
@[go_sem] theorem bindP_none {α : Type} {k : K (α → Prop)} : @bindP α none k = False := by simp [bindP]
def onlyD {α : Type} : Bool → α → Option α
 | true, x => some x
 | false, _ => none
@[go_sem] theorem onlyD_true {α : Type} {x : α} : onlyD true x = some x := rfl
@[go_sem] theorem onlyD_false {α : Type} {x : α} : onlyD false x = none := rfl
def ifP (c : Prop) [A : K Prop] [B : K Prop] : Prop := (c → A.v) ∧ (¬ c → B.v)
@[go_sem] theorem ifP_true {A : Prop} {B : K Prop} : @ifP True ⟨A⟩ B = A := by simp [ifP]
@[go_sem] theorem ifP_false {A : K Prop} {B : Prop} : @ifP False A ⟨B⟩ = B := by simp [ifP]
theorem ifP_in {c A B : Prop} (h1 : c → A) (h2 : ¬ c → B) : @ifP c ⟨A⟩ ⟨B⟩ := ⟨h1, h2⟩
@[go_sem] theorem ifP_pos {c A : Prop} {B : K Prop} (h : c) : @ifP c ⟨A⟩ B = A := by simp [ifP, h]
@[go_sem] theorem ifP_neg {c B : Prop} {A : K Prop} (h : ¬ c) : @ifP c A ⟨B⟩ = B := by simp [ifP, h]
def condP (a : AV) [A : K Prop] [B : K Prop] : Prop := ∃ t : Bool, a = .b t ∧ (if t = true then A.v else B.v)
@[go_sem] theorem condP_b {t : Bool} {A B : K Prop} : @condP (.v (.bool t)) A B = @ifP (t = true) A B := by cases t <;> simp [condP, ifP]
def guardP (a : AV) (w : Bool) [A : K Prop] [B : K Prop] : Prop := (∃ t : Bool, a = .b t ∧ (if t = w then A.v else B.v)) ∨ (a = skipA ∧ B.v)
@[go_sem] theorem guardP_b {t w : Bool} {A B : K Prop} : @guardP (.v (.bool t)) w A B = @ifP (t = w) A B := by cases t <;> cases w <;> simp [guardP, ifP, skipA]
@[go_sem] theorem guardP_skip {w : Bool} {A : K Prop} {B : Prop} : @guardP skipA w A ⟨B⟩ = B := by simp [guardP, skipA]
def guardW (all : Array Oper) (e : Env) (j : Nat) : AV := (((all[j]?).bind (·.dst)).map e).getD .un
def guardV (e : Env) (j : Nat) [all : K (Array Oper)] : AV := guardW all.v e j
@[go_sem] theorem guardV_zero {d : Nat} {op ty pos after g} {l : List Oper} {e : Env} : @guardV e 0 ⟨List.toArray ({ dst := some d, op := op, type := ty, pos := pos, after := after, guard := g } :: l)⟩ = e d := by simp [guardV, guardW]
@[go_sem] theorem guardV_succ {o : Oper} {l : List Oper} {e : Env} {n : Nat} : @guardV e (n + 1) ⟨List.toArray (o :: l)⟩ = @guardV e n ⟨List.toArray l⟩ := by simp [guardV, guardW]
section
variable {P : Program} {C : Cfg}
theorem WC_skip {e : Env} {H : Heap} {Q : Ex → Env → Heap → Prop} : WC P C .skip e H Q = Q .normal e H :=
 propext ⟨fun ⟨n, x, e', H', h, hq⟩ => by cases n with | zero => cases h | succ n => injection h with h; injection h with h1 h; injection h with h2 h3; subst h1; subst h2; subst h3; exact hq, .skip⟩
theorem WC_exit {id : Nat} {e : Env} {H : Heap} {Q : Ex → Env → Heap → Prop} : WC P C (.exit id) e H Q = Q (.exit id) e H :=
 propext ⟨fun ⟨n, x, e', H', h, hq⟩ => by cases n with | zero => cases h | succ n => injection h with h; injection h with h1 h; injection h with h2 h3; subst h1; subst h2; subst h3; exact hq, .exit⟩
theorem WC_ret {e : Env} {H : Heap} {Q : Ex → Env → Heap → Prop} : WC P C .ret e H Q = Q .ret e H :=
 propext ⟨fun ⟨n, x, e', H', h, hq⟩ => by cases n with | zero => cases h | succ n => injection h with h; injection h with h1 h; injection h with h2 h3; subst h1; subst h2; subst h3; exact hq, .ret⟩
theorem lc_up' {n k : Nat} {m : Nat} (hm : m ≤ k) (hk : n ≤ k) {c e H y} (h : lcode P C (lcall P C n) m c e H = some y) : lcode P C (lcall P C k) k c e H = some y := lcode_mono (lcall_le hk) m k hm _ _ _ _ h
theorem WC_seq {a b : Code} {e : Env} {H : Heap} {Q : Ex → Env → Heap → Prop} : WC P C (.seq a b) e H Q = WC P C a e H (qSeq P C b Q) := by
 refine propext ⟨fun ⟨n, x, e', H', h, hq⟩ => ?_, .seq⟩
 cases n with
 | zero => cases h
 | succ n =>
  simp only [lcode] at h
  split at h
  ·rename_i e1 H1 h1
   exact ⟨n + 1, _, _, _, lc_up' (Nat.le_succ n) (Nat.le_refl _) h1, n + 1, _, _, _, lc_up' (Nat.le_succ n) (Nat.le_refl _) h, hq⟩
  ·rename_i hne
   refine ⟨n + 1, _, _, _, lc_up' (Nat.le_succ n) (Nat.le_refl _) h, ?_⟩
   cases x with
   | normal => exact absurd h (hne _ _)
   | exit i => exact hq
   | ret => exact hq
theorem WC_block {id : Nat} {a : Code} {e : Env} {H : Heap} {Q : Ex → Env → Heap → Prop} : WC P C (.block id a) e H Q = WC P C a e H (qBlock id Q) := by
 refine propext ⟨fun ⟨n, x, e', H', h, hq⟩ => ?_, .block⟩
 cases n with
 | zero => cases h
 | succ n =>
  simp only [lcode] at h
  split at h
  ·rename_i i e1 H1 h1
   refine ⟨n + 1, _, _, _, lc_up' (Nat.le_succ n) (Nat.le_refl _) h1, ?_⟩
   simp only [qBlock]
   split at h
   ·rename_i hi; rw [if_pos hi]; injection h with h; injection h with h1 h; injection h with h2 h3; subst h1; subst h2; subst h3; exact hq
   ·rename_i hi; rw [if_neg hi]; injection h with h; injection h with h1 h; injection h with h2 h3; subst h1; subst h2; subst h3; exact hq
  ·rename_i hne
   refine ⟨n + 1, _, _, _, lc_up' (Nat.le_succ n) (Nat.le_refl _) h, ?_⟩
   cases x with
   | normal => exact hq
   | exit i => exact absurd h (hne _ _ _)
   | ret => exact hq
theorem WC_cond {c : Operand} {a b : Code} {e : Env} {H : Heap} {Q : Ex → Env → Heap → Prop} : WC P C (.cond c a b) e H Q = @condP (ev e c) ⟨WC P C a e H Q⟩ ⟨WC P C b e H Q⟩ := by
 refine propext ⟨fun ⟨n, x, e', H', h, hq⟩ => ?_, fun ⟨t, h1, h2⟩ => .cond t h1 (fun h => by subst h; simpa using h2) (fun h => by subst h; simpa using h2)⟩
 cases n with
 | zero => cases h
 | succ n =>
  simp only [lcode] at h
  split at h
  ·rename_i t ht
   refine ⟨t, ht, ?_⟩
   cases t with
   | true => exact ⟨n + 1, _, _, _, lc_up' (Nat.le_succ n) (Nat.le_refl _) (by simpa using h), hq⟩
   | false => exact ⟨n + 1, _, _, _, lc_up' (Nat.le_succ n) (Nat.le_refl _) (by simpa using h), hq⟩
  ·cases h
theorem WC_region {id : Nat} {l : List Oper} {e : Env} {H : Heap} {Q : Ex → Env → Heap → Prop} : WC P C (.region id (List.toArray l) false) e H Q = WO P C (List.toArray l) l e H (Q .normal) := by
 refine propext ⟨fun ⟨n, x, e', H', h, hq⟩ => ?_, fun h => .region h⟩
 cases n with
 | zero => cases h
 | succ n =>
  simp only [lcode] at h
  obtain ⟨⟨e1, H1⟩, h1, h2⟩ := xoM.1 h
  injection h2 with h3 h; injection h with h4 h5; subst h3; subst h4; subst h5
  exact ⟨_, _, _, h1, hq⟩
theorem WC_regionD {id : Nat} {l : List Oper} {e : Env} {H : Heap} {Q : Ex → Env → Heap → Prop} : WC P C (.region id (List.toArray l) true) e H Q = WD P C (List.toArray l) 0 l e H { snaps := [], loads := [] } (Q .normal) := by
 refine propext ⟨fun ⟨n, x, e', H', h, hq⟩ => ?_, fun h => .regionD h⟩
 cases n with
 | zero => cases h
 | succ n =>
  simp only [lcode] at h
  obtain ⟨⟨e1, H1⟩, h1, h2⟩ := xoM.1 h
  injection h2 with h3 h; injection h with h4 h5; subst h3; subst h4; subst h5
  exact ⟨_, _, _, h1, hq⟩
theorem qBlock_exit {id i : Nat} {Q : Ex → Env → Heap → Prop} {e : Env} {H : Heap} : qBlock id Q (.exit i) e H = @ifP (i = id) ⟨Q .normal e H⟩ ⟨Q (.exit i) e H⟩ := by
 by_cases h : i = id <;> simp [qBlock, ifP, h]
def qFn (P : Program) (fn : Func) (Q : AV → Heap → Prop) : Ex → Env → Heap → Prop
 | .exit _, _, _ => False
 | _, e, H => ∃ a, resultsA P fn e H = some a ∧ Q a H
def resV (P : Program) (rs : Array ResultVar) (e : Env) (H : Heap) : Option AV :=
 match rs.toList.mapM (resA P e H) with
 | some [a] => some a
 | some as_ => some (.tup as_)
 | none => none
@[go_sem] theorem resV_0 {e : Env} {H : Heap} : resV P #[] e H = some (.tup []) := by simp [resV]
@[go_sem] theorem resV_1 {a : Nat} {e : Env} {H : Heap} : resV P #[.tmp a] e H = some (e a) := by simp [resV, resA]
@[go_sem] theorem resV_2 {a b : Nat} {e : Env} {H : Heap} : resV P #[.tmp a, .tmp b] e H = some (.tup [e a, e b]) := by simp [resV, resA]
@[go_sem] theorem resV_3 {a b c : Nat} {e : Env} {H : Heap} : resV P #[.tmp a, .tmp b, .tmp c] e H = some (.tup [e a, e b, e c]) := by simp [resV, resA]
@[go_sem] theorem resV_4 {a b c d : Nat} {e : Env} {H : Heap} : resV P #[.tmp a, .tmp b, .tmp c, .tmp d] e H = some (.tup [e a, e b, e c, e d]) := by simp [resV, resA]
@[go_sem] theorem resV_5 {a b c d f : Nat} {e : Env} {H : Heap} : resV P #[.tmp a, .tmp b, .tmp c, .tmp d, .tmp f] e H = some (.tup [e a, e b, e c, e d, e f]) := by simp [resV, resA]
@[go_sem] theorem resV_c {a t : Nat} {e : Env} {H : Heap} : resV P #[.cell a t] e H = loadA P H t (e a) := by
 cases h : loadA P H t (e a) <;> simp [resV, resA, h]
theorem WF_fn {f args H Q} {fn : Func} {c : Code} (he : C.ext f = none) (hok : C.ok f = true) (hf : P.funcs[f]? = some fn) (hb : fn.body = some c) (h : WC P (C.at f) c (env0 args) H (qFn P fn Q)) : WF P C f args H Q := by
 refine WF.call he hok hf hb (h.mono fun x e' H' hx => ?_)
 cases x with
 | exit i => exact hx.elim
 | normal => obtain ⟨a, h1, h2⟩ := hx; exact ⟨(by simp), a, h1, h2⟩
 | ret => obtain ⟨a, h1, h2⟩ := hx; exact ⟨(by simp), a, h1, h2⟩
theorem WO_nil {all : Array Oper} {e : Env} {H : Heap} {Q : Env → Heap → Prop} : WO P C all [] e H Q = Q e H :=
 propext ⟨fun ⟨n, e', H', h, hq⟩ => by injection h with h; injection h with h1 h2; subst h1; subst h2; exact hq, .nil⟩
theorem WO_cons {all : Array Oper} {d : Option Nat} {op : Op} {ty pos after} {r : List Oper} {e : Env} {H : Heap} {Q : Env → Heap → Prop} :
  WO P C all ({ dst := d, op := op, type := ty, pos := pos, after := after, guard := none } :: r) e H Q = WS P C d e H op (fun a H' => WO P C all r (put e d a) H' Q) := by
 refine propext ⟨fun ⟨n, e', H', h, hq⟩ => ?_, fun h => .step rfl h⟩
 obtain ⟨⟨a, H1⟩, h1, h2⟩ := xoB.1 h
 exact ⟨n, a, H1, h1, n, e', H', h2, hq⟩
theorem WO_guard {all : Array Oper} {d : Option Nat} {op : Op} {ty pos after} {j : Nat} {w : Bool} {r : List Oper} {e : Env} {H : Heap} {Q : Env → Heap → Prop} :
  WO P C all ({ dst := d, op := op, type := ty, pos := pos, after := after, guard := some (j, w) } :: r) e H Q =
   @guardP (guardW all e j) w ⟨WS P C d e H op (fun a H' => WO P C all r (put e d a) H' Q)⟩ ⟨WO P C all r (put e d skipA) H Q⟩ := by
 have hw : wants all e { dst := d, op := op, type := ty, pos := pos, after := after, guard := some (j, w) } = match guardW all e j with | .v (.bool b) => some (b == w) | .tup xs => if xs.isEmpty = true then some false else none | _ => none := by
  unfold wants guardW
  simp only
  cases (all[j]?).bind (·.dst) <;> rfl
 refine propext ⟨fun ⟨n, e', H', h, hq⟩ => ?_, fun hh => ?_⟩
 ·unfold lops at h
  rw [hw] at h
  cases hg : guardW all e j with
  | v x =>
   rw [hg] at h
   cases x with
   | bool t =>
    simp only at h
    refine .inl ⟨t, rfl, ?_⟩
    by_cases htw : t = w
    ·subst htw
     simp only [beq_self_eq_true] at h
     obtain ⟨⟨a, H1⟩, h1, h2⟩ := xoB.1 h
     rw [if_pos rfl]
     exact ⟨n, a, H1, h1, n, e', H', h2, hq⟩
    ·rw [show (t == w) = false from by simp [htw]] at h
     rw [if_neg htw]
     exact ⟨n, e', H', h, hq⟩
   | _ => cases h
  | tup xs =>
   rw [hg] at h
   cases xs with
   | nil => exact .inr ⟨rfl, n, e', H', h, hq⟩
   | cons x xs => cases h
  | _ => rw [hg] at h; cases h
 ·rcases hh with ⟨t, ht, h⟩ | ⟨ht, h⟩
  ·rw [ht] at hw
   by_cases htw : t = w
   ·rw [if_pos htw] at h
    exact .step (by rw [hw]; simp [htw]) h
   ·rw [if_neg htw] at h
    exact .pass (by rw [hw]; simp [htw]) h
  ·rw [ht] at hw
   exact .pass (by rw [hw]; rfl) h
theorem WD_nil {all : Array Oper} {i : Nat} {e : Env} {H : Heap} {S : Seen} {Q : Env → Heap → Prop} : WD P C all i [] e H S Q = Q e H :=
 propext ⟨fun ⟨n, e', H', h, hq⟩ => by injection h with h; injection h with h1 h2; subst h1; subst h2; exact hq, .nil⟩
theorem WD_cons {all : Array Oper} {i : Nat} {d : Option Nat} {op : Op} {ty pos after} {r : List Oper} {e : Env} {H : Heap} {S : Seen} {Q : Env → Heap → Prop} :
  WD P C all i ({ dst := d, op := op, type := ty, pos := pos, after := after, guard := none } :: r) e H S Q = WS P C d e H op (fun a H' => @bindP _ (seenOK P all i e S op a H H') ⟨fun S' => WD P C all (i + 1) r (put e d a) H' S' Q⟩) := by
 refine propext ⟨fun ⟨n, e', H', h, hq⟩ => ?_, fun h => .step rfl h⟩
 unfold lopsD at h
 simp only [wants] at h
 obtain ⟨⟨a, H1⟩, h1, h2⟩ := xoB.1 h
 obtain ⟨S', h3, h4⟩ := xoB.1 h2
 exact ⟨n, a, H1, h1, S', h3, n, e', H', h4, hq⟩
theorem WD_guard {all : Array Oper} {i : Nat} {d : Option Nat} {op : Op} {ty pos after} {j : Nat} {w : Bool} {r : List Oper} {e : Env} {H : Heap} {S : Seen} {Q : Env → Heap → Prop} :
  WD P C all i ({ dst := d, op := op, type := ty, pos := pos, after := after, guard := some (j, w) } :: r) e H S Q =
   @guardP (guardW all e j) w ⟨WS P C d e H op (fun a H' => @bindP _ (seenOK P all i e S op a H H') ⟨fun S' => WD P C all (i + 1) r (put e d a) H' S' Q⟩)⟩ ⟨WD P C all (i + 1) r (put e d skipA) H S Q⟩ := by
 have hw : wants all e { dst := d, op := op, type := ty, pos := pos, after := after, guard := some (j, w) } = match guardW all e j with | .v (.bool b) => some (b == w) | .tup xs => if xs.isEmpty = true then some false else none | _ => none := by
  unfold wants guardW
  simp only
  cases (all[j]?).bind (·.dst) <;> rfl
 refine propext ⟨fun ⟨n, e', H', h, hq⟩ => ?_, fun hh => ?_⟩
 ·unfold lopsD at h
  rw [hw] at h
  cases hg : guardW all e j with
  | v x =>
   rw [hg] at h
   cases x with
   | bool t =>
    simp only at h
    refine .inl ⟨t, rfl, ?_⟩
    by_cases htw : t = w
    ·subst htw
     simp only [beq_self_eq_true] at h
     obtain ⟨⟨a, H1⟩, h1, h2⟩ := xoB.1 h
     obtain ⟨S', h3, h4⟩ := xoB.1 h2
     rw [if_pos rfl]
     exact ⟨n, a, H1, h1, S', h3, n, e', H', h4, hq⟩
    ·rw [show (t == w) = false from by simp [htw]] at h
     rw [if_neg htw]
     exact ⟨n, e', H', h, hq⟩
   | _ => cases h
  | tup xs =>
   rw [hg] at h
   cases xs with
   | nil => exact .inr ⟨rfl, n, e', H', h, hq⟩
   | cons x xs => cases h
  | _ => rw [hg] at h; cases h
 ·rcases hh with ⟨t, ht, h⟩ | ⟨ht, h⟩
  ·rw [ht] at hw
   by_cases htw : t = w
   ·rw [if_pos htw] at h
    exact .step (by rw [hw]; simp [htw]) h
   ·rw [if_neg htw] at h
    exact .pass (by rw [hw]; simp [htw]) h
  ·rw [ht] at hw
   exact .pass (by rw [hw]; rfl) h
theorem stepA_plain {c : CallF} {d : Option Nat} {e : Env} {H : Heap} {o : Op} (he : C.spec d o = false) : stepA P C c d e H o = stepB P C (C.via d c) e H o := by
 unfold stepA
 rw [if_neg (by rw [he]; simp)]
theorem spec_none {C : Cfg} {d : Option Nat} {o : Op} (h1 : muOp o = false) (h2 : fzOp o = false) (h3 : tkOp o = false := by rfl) : C.spec d o = false := by
 unfold Cfg.spec; rw [h1, h2, h3]; simp
theorem spec_both {C : Cfg} {d : Option Nat} {o : Op} (h1 : muOp o = true) (h2 : fzOp o = false) (h3 : tkOp o = true) : C.spec d o = (C.isMu d || C.isTk d) := by
 unfold Cfg.spec; rw [h1, h2, h3]; simp
theorem spec_mu {C : Cfg} {d : Option Nat} {o : Op} (h1 : muOp o = true) (h2 : fzOp o = false) (h3 : tkOp o = false) : C.spec d o = C.isMu d := by
 unfold Cfg.spec; rw [h1, h2, h3]; simp
theorem spec_fz {C : Cfg} {d : Option Nat} {o : Op} (h1 : muOp o = false) (h2 : fzOp o = true) (h3 : tkOp o = false) : C.spec d o = C.isFz d := by
 unfold Cfg.spec; rw [h1, h2, h3]; simp
theorem WS_opA {d : Option Nat} {e : Env} {H : Heap} {o : Op} {Q : AV → Heap → Prop} (he : C.spec d o = false) (h : ∀ c, stepB P C c e H o = opA P e H o) : WS P C d e H o Q = @bindP _ (opA P e H o) ⟨fun p => Q p.1 p.2⟩ :=
 propext ⟨fun ⟨n, a, H', h1, hq⟩ => ⟨(a, H'), by rw [← h, ← stepA_plain he]; exact h1, hq⟩, fun ⟨⟨a, H'⟩, h1, hq⟩ => ⟨0, a, H', by rw [stepA_plain he, h]; exact h1, hq⟩⟩
theorem WS_mu {d : Option Nat} {e : Env} {H : Heap} {o : Op} {Q : AV → Heap → Prop} (hm : C.spec d o = true) (ht : C.isTk d = false) : WS P C d e H o Q = @bindP _ (muA P e H o) ⟨fun p => Q p.1 p.2⟩ := by
 have h : ∀ c, stepA P C c d e H o = muA P e H o := fun c => by unfold stepA; rw [if_pos hm, ht]; rfl
 exact propext ⟨fun ⟨n, a, H', h1, hq⟩ => ⟨(a, H'), by rw [← h]; exact h1, hq⟩, fun ⟨⟨a, H'⟩, h1, hq⟩ => ⟨0, a, H', by rw [h]; exact h1, hq⟩⟩
theorem WS_tk {d : Option Nat} {e : Env} {H : Heap} {o : Op} {Q : AV → Heap → Prop} (hm : C.spec d o = true) (ht : C.isTk d = true) : WS P C d e H o Q = @bindP _ (tkA P e H o) ⟨fun p => Q p.1 p.2⟩ := by
 have h : ∀ c, stepA P C c d e H o = tkA P e H o := fun c => by unfold stepA; rw [if_pos hm, if_pos ht]
 exact propext ⟨fun ⟨n, a, H', h1, hq⟩ => ⟨(a, H'), by rw [← h]; exact h1, hq⟩, fun ⟨⟨a, H'⟩, h1, hq⟩ => ⟨0, a, H', by rw [h]; exact h1, hq⟩⟩
theorem WS_pure {d : Option Nat} {e : Env} {H : Heap} {o : Op} {x : Option AV} {Q : AV → Heap → Prop} (he : C.spec d o = false) (h : ∀ c, stepB P C c e H o = x.map fun a => (a, H)) : WS P C d e H o Q = @bindP _ x ⟨fun a => Q a H⟩ := by
 refine propext ⟨fun ⟨n, a, H', h1, hq⟩ => ?_, fun ⟨a, h1, hq⟩ => ⟨0, a, H, by rw [stepA_plain he, h, h1]; rfl, hq⟩⟩
 rw [stepA_plain he, h] at h1
 obtain ⟨b, h2, h3⟩ := xoM.1 h1
 injection h3 with h4 h5; subst h4; subst h5
 exact ⟨_, h2, hq⟩
variable {d : Option Nat}
variable {e : Env} {H : Heap} {Q : AV → Heap → Prop}
theorem WS_move {x : Operand} : WS P C d e H (.move x) Q = Q (ev e x) H := by rw [WS_pure (x := some (ev e x)) (spec_none rfl rfl) (fun _ => rfl), bindP_some]
theorem WS_assign {x : Operand} (hm : C.spec d (.assign x) = false) : WS P C d e H (.assign x) Q = Q (ev e x) H := by rw [WS_pure (x := some (ev e x)) hm (fun _ => rfl), bindP_some]
def pickA : AV → AV → AV → Option AV
 | .v (.bool t), a, b => some (bif t then a else b)
 | _, _, _ => none
@[go_sem] theorem pickA_true {a b : AV} : pickA (.v (.bool true)) a b = some a := rfl
@[go_sem] theorem pickA_false {a b : AV} : pickA (.v (.bool false)) a b = some b := rfl
@[go_sem] theorem pickA_pos {p : Prop} [Decidable p] {a b : AV} (h : p) : pickA (.v (.bool (decide p))) a b = some a := by simp [pickA, h]
@[go_sem] theorem pickA_neg {p : Prop} [Decidable p] {a b : AV} (h : ¬ p) : pickA (.v (.bool (decide p))) a b = some b := by simp [pickA, h]
theorem WS_pick {c a b : Operand} : WS P C d e H (.pick c a b) Q = @bindP _ (pickA (ev e c) (ev e a) (ev e b)) ⟨fun v => Q v H⟩ := by
 refine WS_pure (spec_none rfl rfl) fun _ => ?_
 show (match ev e c with | .v (.bool t) => some (bif t then ev e a else ev e b, H) | _ => none) = _
 generalize ev e c = x
 cases x with
 | v x => cases x <;> rfl
 | _ => rfl
theorem WS_alloc {t : TypeId} : WS P C d e H (.alloc t) Q = @bindP _ (zeroA P t) ⟨fun z => Q (.ptr H.length 0) (H ++ [z])⟩ := by
 rw [WS_opA (spec_none rfl rfl) (fun _ => rfl)]
 show @bindP (AV × Heap) ((zeroA P t).map fun z => (AV.ptr H.length 0, H ++ [z])) ⟨fun p => Q p.1 p.2⟩ = _
 cases zeroA P t <;> simp [bindP]
theorem WS_box {t : TypeId} {x : Operand} : WS P C d e H (.box t x) Q = @bindP _ (if (evX e x).cells.all AV.one = true then some (evX e x).cells else none) ⟨fun z => Q (.ptr H.length 0) (H ++ [z])⟩ := by
 rw [WS_opA (spec_none rfl rfl) (fun _ => rfl)]
 show @bindP (AV × Heap) (if (evX e x).cells.all AV.one = true then some (AV.ptr H.length 0, H ++ [(evX e x).cells]) else none) ⟨fun p => Q p.1 p.2⟩ = _
 by_cases h : (evX e x).cells.all AV.one = true
 ·simp only [if_pos h, bindP_some]
 ·simp only [if_neg h]; simp [bindP]
theorem WS_build {t : TypeId} {parts : List (Nat × Operand)} : WS P C d e H (.build t (List.toArray parts)) Q = @bindP _ (buildA P t (parts.map fun p => (p.1, evX e p.2))) ⟨fun a => Q a H⟩ := WS_pure (spec_none rfl rfl) fun _ => rfl
theorem WS_buildSliceT {t : TypeId} {n : Nat} {parts : List (Nat × Operand)} (ht : C.isTk d = true) : WS P C d e H (.buildSlice t n (List.toArray parts)) Q = @bindP _ (buildT P H t n (parts.map fun p => (p.1, ev e p.2))) ⟨fun p => Q p.1 p.2⟩ := WS_tk ((spec_both rfl rfl rfl).trans (by rw [ht]; simp)) ht
theorem WS_buildSlice {t : TypeId} {n : Nat} {parts : List (Nat × Operand)} (ht : C.isTk d = false) (hm : C.isMu d = false) : WS P C d e H (.buildSlice t n (List.toArray parts)) Q = @bindP _ (buildSliceA P t n (parts.map fun p => (p.1, ev e p.2))) ⟨fun a => Q a H⟩ := WS_pure ((spec_both rfl rfl rfl).trans (by rw [hm, ht]; rfl)) fun _ => rfl
theorem WS_buildSliceM {t : TypeId} {n : Nat} {parts : List (Nat × Operand)} (hm : C.isMu d = true) (ht : C.isTk d = false) : WS P C d e H (.buildSlice t n (List.toArray parts)) Q = @bindP _ (buildM P H t n (parts.map fun p => (p.1, ev e p.2))) ⟨fun p => Q p.1 p.2⟩ := WS_mu ((spec_both rfl rfl rfl).trans (by rw [hm]; rfl)) ht
theorem WS_load {t : TypeId} {x : Operand} : WS P C d e H (.load t x) Q = @bindP _ (loadA P H t (ev e x)) ⟨fun a => Q a H⟩ := WS_pure (spec_none rfl rfl) fun _ => rfl
theorem WS_store {t : TypeId} {p x : Operand} : WS P C d e H (.store t p x) Q = @bindP _ (storeA P H t (ev e p) (evX e x)) ⟨fun H' => Q .un H'⟩ := by
 rw [WS_opA (spec_none rfl rfl) (fun _ => rfl)]
 show @bindP (AV × Heap) ((storeA P H t (ev e p) (evX e x)).map fun H' => (AV.un, H')) ⟨fun p => Q p.1 p.2⟩ = _
 cases storeA P H t (ev e p) (evX e x) <;> simp [bindP]
theorem WS_nilCheck {x : Operand} : WS P C d e H (.nilCheck x) Q = @bindP _ (match ev e x with | .ptr j off => some (AV.ptr j off) | _ => none) ⟨fun a => Q a H⟩ := by
 refine WS_pure (spec_none rfl rfl) fun _ => ?_
 show (match ev e x with | .ptr j off => some (AV.ptr j off, H) | _ => none) = _
 generalize ev e x = y
 cases y <;> rfl
theorem WS_binOp {op : BinOp} {xt yt : TypeId} {x y : Operand} : WS P C d e H (.binOp op xt x y yt) Q = @bindP _ (bin P op xt (ev e x) (ev e y)) ⟨fun a => Q a H⟩ := WS_pure (spec_none rfl rfl) fun _ => rfl
theorem WS_unOp {op : UnOp} {t : TypeId} {x : Operand} : WS P C d e H (.unOp op t x) Q = @bindP _ (un1 op (ev e x)) ⟨fun a => Q a H⟩ := WS_pure (spec_none rfl rfl) fun _ => rfl
theorem WS_convert {s u : TypeId} {x : Operand} (hm : C.isMu d = false) : WS P C d e H (.convert s u x) Q = @bindP _ (conv P s u (plainA (ev e x))) ⟨fun a => Q a H⟩ := WS_pure ((spec_mu rfl rfl rfl).trans hm) fun _ => rfl
theorem WS_convertM {s u : TypeId} {x : Operand} (hm : C.isMu d = true) (ht : C.isTk d = false) : WS P C d e H (.convert s u x) Q = @bindP _ (convM P H s u (ev e x)) ⟨fun p => Q p.1 p.2⟩ := WS_mu ((spec_mu rfl rfl rfl).trans hm) ht
theorem WS_slice {t : TypeId} {x : Operand} {lo hi mx : Option Operand} (hm : C.isMu d = false) : WS P C d e H (.slice t x lo hi mx) Q = @bindP _ (sliceA P t (owA (ev e x)) (lo.map (ev e)) (hi.map (ev e)) (mx.map (ev e))) ⟨fun a => Q a H⟩ := WS_pure ((spec_mu rfl rfl rfl).trans hm) fun _ => rfl
theorem WS_sliceM {t : TypeId} {x : Operand} {lo hi mx : Option Operand} (hm : C.isMu d = true) (ht : C.isTk d = false) : WS P C d e H (.slice t x lo hi mx) Q = @bindP _ (sliceM P H t (ev e x) (lo.map (ev e)) (hi.map (ev e)) (mx.map (ev e))) ⟨fun p => Q p.1 p.2⟩ := WS_mu ((spec_mu rfl rfl rfl).trans hm) ht
theorem WS_copy {x y : Operand} {t u : TypeId} (hm : C.isMu d = true) (ht : C.isTk d = false) : WS P C d e H (.call { callee := .builtin .copy, args := List.toArray [x, y], argTypes := List.toArray [t, u] }) Q = @bindP _ (copyM P H t u (ev e x) (owA (ev e y))) ⟨fun p => Q p.1 p.2⟩ := WS_mu ((spec_mu rfl rfl rfl).trans hm) ht
theorem WS_fieldAddr {s : TypeId} {x : Operand} {f : Nat} : WS P C d e H (.fieldAddr s x f) Q = @bindP _ (fieldAddrA P s (ev e x) f) ⟨fun a => Q a H⟩ := WS_pure (spec_none rfl rfl) fun _ => rfl
theorem WS_field {s : TypeId} {x : Operand} {f : Nat} : WS P C d e H (.field s x f) Q = @bindP _ (fieldA P s (ev e x) f) ⟨fun a => Q a H⟩ := WS_pure (spec_none rfl rfl) fun _ => rfl
theorem WS_indexAddr {t : TypeId} {x i : Operand} : WS P C d e H (.indexAddr t x i) Q = @bindP _ (indexAddrA P t (owA (ev e x)) (ev e i)) ⟨fun a => Q a H⟩ := WS_pure (spec_none rfl rfl) fun _ => rfl
theorem WS_index {t : TypeId} {x i : Operand} : WS P C d e H (.index t x i) Q = @bindP _ (indexA P t (ev e x) (ev e i)) ⟨fun a => Q a H⟩ := WS_pure (spec_none rfl rfl) fun _ => rfl
def extractA : AV → Nat → Option AV
 | .tup xs, i => xs[i]?
 | _, _ => none
@[go_sem] theorem extractA_zero {x : AV} {xs : List AV} : extractA (.tup (x :: xs)) 0 = some x := rfl
@[go_sem] theorem extractA_succ {x : AV} {xs : List AV} {n : Nat} : extractA (.tup (x :: xs)) (n + 1) = extractA (.tup xs) n := rfl
theorem WS_extract {t : Operand} {i : Nat} : WS P C d e H (.extract t i) Q = @bindP _ (extractA (ev e t) i) ⟨fun a => Q a H⟩ := by
 refine WS_pure (spec_none rfl rfl) fun _ => ?_
 show (match ev e t with | .tup xs => (xs[i]?).map fun a => (a, H) | _ => none) = _
 generalize ev e t = y
 cases y <;> rfl
theorem WS_len {args : List Operand} {ts : List TypeId} : WS P C d e H (.call { callee := .builtin .len, args := List.toArray args, argTypes := List.toArray ts }) Q = @bindP _ (builtinA P .len ts (args.map fun x => owA (ev e x))) ⟨fun a => Q a H⟩ := WS_pure (spec_none rfl rfl) fun _ => rfl
theorem WS_min {args : List Operand} {ts : List TypeId} : WS P C d e H (.call { callee := .builtin .min, args := List.toArray args, argTypes := List.toArray ts }) Q = @bindP _ (builtinA P .min ts (args.map fun x => owA (ev e x))) ⟨fun a => Q a H⟩ := WS_pure (spec_none rfl rfl) fun _ => rfl
theorem WS_max {args : List Operand} {ts : List TypeId} : WS P C d e H (.call { callee := .builtin .max, args := List.toArray args, argTypes := List.toArray ts }) Q = @bindP _ (builtinA P .max ts (args.map fun x => owA (ev e x))) ⟨fun a => Q a H⟩ := WS_pure (spec_none rfl rfl) fun _ => rfl
theorem WS_append {x y : Operand} {t u : TypeId} (hm : C.isMu d = false) (ht : C.isTk d = false) : WS P C d e H (.call { callee := .builtin .append, args := List.toArray [x, y], argTypes := List.toArray [t, u] }) Q = @bindP _ (builtinA P .append [t, u] [ev e x, viewR P H u (ev e y)]) ⟨fun a => Q a H⟩ := WS_pure ((spec_both rfl rfl rfl).trans (by rw [hm, ht]; rfl)) fun _ => rfl
theorem WS_appendM {x y : Operand} {t u : TypeId} (hm : C.isMu d = true) (ht : C.isTk d = false) : WS P C d e H (.call { callee := .builtin .append, args := List.toArray [x, y], argTypes := List.toArray [t, u] }) Q = @bindP _ (appendM P H t u (ev e x) (viewR P H u (ev e y))) ⟨fun p => Q p.1 p.2⟩ := WS_mu ((spec_both rfl rfl rfl).trans (by rw [hm]; rfl)) ht
theorem WS_appendT {x y : Operand} {t u : TypeId} (ht : C.isTk d = true) : WS P C d e H (.call { callee := .builtin .append, args := List.toArray [x, y], argTypes := List.toArray [t, u] }) Q = @bindP _ (appendT P H t u (ev e x) (viewR P H u (ev e y))) ⟨fun p => Q p.1 p.2⟩ := WS_tk ((spec_both rfl rfl rfl).trans (by rw [ht]; simp)) ht
theorem WS_makeSlice {t : TypeId} {l c : Operand} (hm : C.isMu d = true) (ht : C.isTk d = false) : WS P C d e H (.makeSlice t l c) Q = @bindP _ (makeA P H t (ev e l) (ev e c)) ⟨fun p => Q p.1 p.2⟩ := WS_mu ((spec_mu rfl rfl rfl).trans hm) ht
theorem WS_makeMap {t : TypeId} : WS P C d e H (.makeMap t none) Q = @bindP _ (mapTy P t) ⟨fun _ => Q (.mp H.length) (H ++ [[.mv [] []]])⟩ := by
 rw [WS_opA (spec_none rfl rfl) (fun _ => rfl)]
 show @bindP (AV × Heap) ((mapTy P t).map fun _ => (.mp H.length, H ++ [[.mv [] []]])) ⟨fun p => Q p.1 p.2⟩ = _
 cases mapTy P t <;> simp [bindP]
theorem WS_lookup {t : TypeId} {m k : Operand} {c : Bool} : WS P C d e H (.lookup t m k c) Q = @bindP _ (lookupA P H t (ev e m) (ev e k) c) ⟨fun a => Q a H⟩ := WS_pure (spec_none rfl rfl) fun _ => rfl
theorem WS_mapUpdate {t : TypeId} {m k v : Operand} : WS P C d e H (.mapUpdate t m k v) Q = @bindP _ (updateA P H t (ev e m) (ev e k) (ev e v)) ⟨fun H' => Q .un H'⟩ := by
 rw [WS_opA (spec_none rfl rfl) (fun _ => rfl)]
 show @bindP (AV × Heap) ((updateA P H t (ev e m) (ev e k) (ev e v)).map fun H' => (AV.un, H')) ⟨fun p => Q p.1 p.2⟩ = _
 cases updateA P H t (ev e m) (ev e k) (ev e v) <;> simp [bindP]
theorem WS_insert {t : TypeId} {m k v : Operand} : WS P C d e H (.insert t m k v) Q = @bindP _ (updateA P H t (ev e m) (ev e k) (ev e v)) ⟨fun H' => Q .un H'⟩ := by
 rw [WS_opA (spec_none rfl rfl) (fun _ => rfl)]
 show @bindP (AV × Heap) ((updateA P H t (ev e m) (ev e k) (ev e v)).map fun H' => (AV.un, H')) ⟨fun p => Q p.1 p.2⟩ = _
 cases updateA P H t (ev e m) (ev e k) (ev e v) <;> simp [bindP]
theorem WS_delete {t u : TypeId} {m k : Operand} : WS P C d e H (.call { callee := .builtin .delete, args := List.toArray [m, k], argTypes := List.toArray [t, u] }) Q = @bindP _ (deleteA P H t (ev e m) (ev e k)) ⟨fun H' => Q (.tup []) H'⟩ := by
 rw [WS_opA (spec_none rfl rfl) (fun _ => rfl)]
 show @bindP (AV × Heap) ((deleteA P H t (ev e m) (ev e k)).map fun H' => (AV.tup [], H')) ⟨fun p => Q p.1 p.2⟩ = _
 cases deleteA P H t (ev e m) (ev e k) <;> simp [bindP]
def freezeA (H : Heap) : AV → Option (AV × Heap)
 | .mr j off len n g => (H[j]?).bind fun cs => if (g = true ∨ n = 1) ∧ 0 < len ∧ off + len * n ≤ cs.length ∧ cs.all AV.one = true then some (.sl (chunk g n len (cs.drop off)), H.set j []) else none
 | .v x => if isNilV x = true then some (.sl [], H) else none
 | .ow xs _ => some (.sl xs, H)
 | .sl xs => some (.sl xs, H)
 | _ => none
def altF (P : Program) (C : Cfg) (g : FuncId) (args : List AV) (H : Heap) (Q : AV → Heap → Prop) : Prop :=
 match C.alt g with
 | some s => @bindP _ (s args H) ⟨fun p => Q p.1 p.2⟩
 | none => WF P C g args H Q
theorem WS_call {g : FuncId} {args : List Operand} {ts : Array TypeId} : WS P C d e H (.call { callee := .value (.func g), args := List.toArray args, argTypes := ts }) Q = (bif C.isMu d then altF P C g (args.map fun x => argE C g e x) H Q else WF P C g (args.map fun x => argE C g e x) H Q) := by
 unfold WS
 simp only [stepA_plain (spec_none (o := .call { callee := .value (.func g), args := List.toArray args, argTypes := ts }) rfl rfl)]
 have hv : ∀ c : CallF, stepB P C (C.via d c) e H (.call { callee := .value (.func g), args := List.toArray args, argTypes := ts }) = C.via d c g (args.map fun x => argE C g e x) H := fun c => rfl
 simp only [hv]
 unfold Cfg.via Cfg.altD altF
 cases C.isMu d with
 | false => rfl
 | true =>
  simp only [cond_true]
  cases C.alt g with
  | none => rfl
  | some s =>
   simp only
   refine propext ⟨fun ⟨n, a, H', h1, h2⟩ => ⟨(a, H'), h1, h2⟩, fun ⟨p, h1, h2⟩ => ⟨0, p.1, p.2, h1, h2⟩⟩
theorem WS_makeFunc {g : FuncId} {caps : List Operand} : WS P C d e H (.makeFunc (.func g) (List.toArray []) (List.toArray caps)) Q = Q (.fn g (caps.map (ev e))) H := by
 rw [WS_pure (x := some (.fn g (caps.map (ev e)))) (spec_none rfl rfl) (fun _ => rfl), bindP_some]
end
def rF (P : Program) (C : Cfg) (f : FuncId) (args : List AV) (H : Heap) [Q : K (AV → Heap → Prop)] : Prop := WF P C f args H Q.v
def rFalt (P : Program) (C : Cfg) (f : FuncId) (args : List AV) (H : Heap) [Q : K (AV → Heap → Prop)] : Prop := altF P C f args H Q.v
def rC (P : Program) (C : Cfg) (c : Code) (e : Env) (H : Heap) [Q : K (Ex → Env → Heap → Prop)] : Prop := WC P C c e H Q.v
def rL (P : Program) (C : Cfg) (e : Env) (H : Heap) [c : K Code] [Q : K (Ex → Env → Heap → Prop)] : Prop := WC P C (.loop c.v) e H Q.v
def rO (P : Program) (C : Cfg) (l : List Oper) (e : Env) (H : Heap) [all : K (Array Oper)] [Q : K (Env → Heap → Prop)] : Prop := WO P C all.v l e H Q.v
def rD (P : Program) (C : Cfg) (i : Nat) (l : List Oper) (e : Env) (H : Heap) (S : Seen) [all : K (Array Oper)] [Q : K (Env → Heap → Prop)] : Prop := WD P C all.v i l e H S Q.v
def rS (P : Program) (C : Cfg) (d : Option Nat) (e : Env) (H : Heap) (o : Op) [Q : K (AV → Heap → Prop)] : Prop := WS P C d e H o Q.v
def rSeq (P : Program) (C : Cfg) (x : Ex) (e : Env) (H : Heap) [b : K Code] [Q : K (Ex → Env → Heap → Prop)] : Prop := qSeq P C b.v Q.v x e H
def rBlock (id : Nat) (x : Ex) (e : Env) (H : Heap) [Q : K (Ex → Env → Heap → Prop)] : Prop := qBlock id Q.v x e H
def rLoop {σ : Type} (x : Ex) (e : Env) (H : Heap) [I : K (σ → Env → Heap → Prop)] [m : K (σ → Nat)] [s : K σ] [Q : K (Ex → Env → Heap → Prop)] : Prop := qLoop I.v m.v s.v Q.v x e H
def rFn (P : Program) (fn : Func) (x : Ex) (e : Env) (H : Heap) [Q : K (AV → Heap → Prop)] : Prop := qFn P fn Q.v x e H
def seenR (P : Program) (i : Nat) (e : Env) (S : Seen) (a : AV) (H H' : Heap) (o : Op) [all : K (Array Oper)] [Q : K (Seen → Prop)] : Prop := @bindP _ (seenOK P all.v i e S o a H H') Q
section
variable {P : Program} {C : Cfg} {e : Env} {H : Heap}
section
variable {Q : Ex → Env → Heap → Prop}
@[go_sem] theorem rC_skip : @rC P C .skip e H ⟨Q⟩ = Q .normal e H := WC_skip
@[go_sem] theorem rC_exit {id : Nat} : @rC P C (.exit id) e H ⟨Q⟩ = Q (.exit id) e H := WC_exit
@[go_sem] theorem rC_ret : @rC P C .ret e H ⟨Q⟩ = Q .ret e H := WC_ret
@[go_sem] theorem rC_seq {a b : Code} {Q : K (Ex → Env → Heap → Prop)} : @rC P C (.seq a b) e H Q = @rC P C a e H ⟨fun x e H => @rSeq P C x e H ⟨b⟩ Q⟩ := WC_seq
@[go_sem] theorem rC_block {id : Nat} {a : Code} {Q : K (Ex → Env → Heap → Prop)} : @rC P C (.block id a) e H Q = @rC P C a e H ⟨fun x e H => @rBlock id x e H Q⟩ := WC_block
@[go_sem] theorem rC_cond {c : Operand} {a b : Code} {Q : K (Ex → Env → Heap → Prop)} : @rC P C (.cond c a b) e H Q = @condP (ev e c) ⟨@rC P C a e H Q⟩ ⟨@rC P C b e H Q⟩ := WC_cond
@[go_sem] theorem rC_region {id : Nat} {l : List Oper} : @rC P C (.region id (List.toArray l) false) e H ⟨Q⟩ = @rO P C l e H ⟨List.toArray l⟩ ⟨fun e H => Q .normal e H⟩ := WC_region
@[go_sem] theorem rC_regionD {id : Nat} {l : List Oper} : @rC P C (.region id (List.toArray l) true) e H ⟨Q⟩ = @rD P C 0 l e H { snaps := [], loads := [] } ⟨List.toArray l⟩ ⟨fun e H => Q .normal e H⟩ := WC_regionD
@[go_sem] theorem rC_loop {a : Code} {Q : K (Ex → Env → Heap → Prop)} : @rC P C (.loop a) e H Q = @rL P C e H ⟨a⟩ Q := rfl
@[go_sem] theorem rSeq_normal {b : Code} {Q : K (Ex → Env → Heap → Prop)} : @rSeq P C .normal e H ⟨b⟩ Q = @rC P C b e H Q := rfl
@[go_sem] theorem rSeq_exit {b : K Code} {i : Nat} : @rSeq P C (.exit i) e H b ⟨Q⟩ = Q (.exit i) e H := rfl
@[go_sem] theorem rSeq_ret {b : K Code} : @rSeq P C .ret e H b ⟨Q⟩ = Q .ret e H := rfl
@[go_sem] theorem rBlock_normal {id : Nat} : @rBlock id .normal e H ⟨Q⟩ = Q .normal e H := rfl
@[go_sem] theorem rBlock_exit {id i : Nat} : @rBlock id (.exit i) e H ⟨Q⟩ = @ifP (i = id) ⟨Q .normal e H⟩ ⟨Q (.exit i) e H⟩ := qBlock_exit
@[go_sem] theorem rBlock_ret {id : Nat} : @rBlock id .ret e H ⟨Q⟩ = Q .ret e H := rfl
@[go_sem] theorem rLoop_exit {σ : Type} {I : K (σ → Env → Heap → Prop)} {m : K (σ → Nat)} {s : K σ} {i : Nat} : @rLoop σ (.exit i) e H I m s ⟨Q⟩ = Q (.exit i) e H := rfl
@[go_sem] theorem rLoop_ret {σ : Type} {I : K (σ → Env → Heap → Prop)} {m : K (σ → Nat)} {s : K σ} : @rLoop σ .ret e H I m s ⟨Q⟩ = Q .ret e H := rfl
@[go_sem] theorem rLoop_normal {σ : Type} {I : σ → Env → Heap → Prop} {m : σ → Nat} {s : σ} {Q : K (Ex → Env → Heap → Prop)} : @rLoop σ .normal e H ⟨I⟩ ⟨m⟩ ⟨s⟩ Q = ∃ s', I s' e H ∧ m s' < m s := rfl
theorem rL_loop {σ : Type} (I : σ → Env → Heap → Prop) (m : σ → Nat) {a : Code} (s : σ) (h0 : I s e H) (step : ∀ s e H, I s e H → @rC P C a e H ⟨fun x e H => @rLoop σ x e H ⟨I⟩ ⟨m⟩ ⟨s⟩ ⟨Q⟩⟩) : @rL P C e H ⟨a⟩ ⟨Q⟩ :=
 WC.loop I m s h0 step
end
section
variable {Q : AV → Heap → Prop} {fn : Func}
@[go_sem] theorem rFn_ret : @rFn P fn .ret e H ⟨Q⟩ = @bindP _ (resV P fn.results e H) ⟨fun a => Q a H⟩ := rfl
@[go_sem] theorem rFn_normal : @rFn P fn .normal e H ⟨Q⟩ = @bindP _ (resV P fn.results e H) ⟨fun a => Q a H⟩ := rfl
theorem rF_fn {f : FuncId} {args : List AV} {c : Code} (he : C.ext f = none) (hok : C.ok f = true) (hf : P.funcs[f]? = some fn) (hb : fn.body = some c) (h : @rC P (C.at f) c (env0 args) H ⟨fun x e H => @rFn P fn x e H ⟨Q⟩⟩) : WF P C f args H Q := WF_fn he hok hf hb h
theorem rF_use {f : FuncId} {args : List AV} {R : AV → Heap → Prop} (h : WF P C f args H R) (hq : ∀ r H', R r H' → Q r H') : @rF P C f args H ⟨Q⟩ := h.mono hq
end
section
variable {Q : Env → Heap → Prop} {all : K (Array Oper)} {d : Option Nat} {op : Op} {ty : TypeId} {pos : String} {after : Array Edge} {r : List Oper}
@[go_sem] theorem rO_nil : @rO P C [] e H all ⟨Q⟩ = Q e H := WO_nil
@[go_sem] theorem rO_cons {Q : K (Env → Heap → Prop)} : @rO P C ({ dst := d, op := op, type := ty, pos := pos, after := after, guard := none } :: r) e H all Q = @rS P C d e H op ⟨fun a H' => @rO P C r (put e d a) H' all Q⟩ := WO_cons
@[go_sem] theorem rO_guard {Q : K (Env → Heap → Prop)} {j : Nat} {w : Bool} : @rO P C ({ dst := d, op := op, type := ty, pos := pos, after := after, guard := some (j, w) } :: r) e H all Q =
  @guardP (@guardV e j all) w ⟨@rS P C d e H op ⟨fun a H' => @rO P C r (put e d a) H' all Q⟩⟩ ⟨@rO P C r (put e d skipA) H all Q⟩ := WO_guard
@[go_sem] theorem rD_nil {i : Nat} {S : Seen} : @rD P C i [] e H S all ⟨Q⟩ = Q e H := WD_nil
@[go_sem] theorem rD_cons {Q : K (Env → Heap → Prop)} {i : Nat} {S : Seen} : @rD P C i ({ dst := d, op := op, type := ty, pos := pos, after := after, guard := none } :: r) e H S all Q =
  @rS P C d e H op ⟨fun a H' => @seenR P i e S a H H' op all ⟨fun S' => @rD P C (i + 1) r (put e d a) H' S' all Q⟩⟩ := WD_cons
@[go_sem] theorem rD_guard {Q : K (Env → Heap → Prop)} {i : Nat} {S : Seen} {j : Nat} {w : Bool} : @rD P C i ({ dst := d, op := op, type := ty, pos := pos, after := after, guard := some (j, w) } :: r) e H S all Q =
  @guardP (@guardV e j all) w ⟨@rS P C d e H op ⟨fun a H' => @seenR P i e S a H H' op all ⟨fun S' => @rD P C (i + 1) r (put e d a) H' S' all Q⟩⟩⟩ ⟨@rD P C (i + 1) r (put e d skipA) H S all Q⟩ := WD_guard
end
section
variable {i : Nat} {S : Seen} {a : AV} {H' : Heap} {all : K (Array Oper)} {Q : Seen → Prop}
theorem seenR_same {o : Op} (h1 : ∀ t p, o ≠ .load t p) (h2 : effOp o = false) (h3 : ∀ t x l h m, o ≠ .slice t x l h m := by simp) : @seenR P i e S a H H' o all ⟨Q⟩ = Q S := by
 have : seenOK P all.v i e S o a H H' = some S := by
  unfold seenOK
  split
  ·exact absurd rfl (h1 _ _)
  ·exact absurd rfl (h3 _ _ _ _ _)
  ·rw [if_neg (by rw [h2]; simp)]
 unfold seenR
 rw [this, bindP_some]
@[go_sem] theorem seenR_move {x : Operand} : @seenR P i e S a H H' (.move x) all ⟨Q⟩ = Q S := seenR_same (by simp) rfl
@[go_sem] theorem seenR_pick {x y z : Operand} : @seenR P i e S a H H' (.pick x y z) all ⟨Q⟩ = Q S := seenR_same (by simp) rfl
@[go_sem] theorem seenR_build {t : TypeId} {ps : Array (Nat × Operand)} : @seenR P i e S a H H' (.build t ps) all ⟨Q⟩ = Q S := seenR_same (by simp) rfl
@[go_sem] theorem seenR_nilCheck {x : Operand} : @seenR P i e S a H H' (.nilCheck x) all ⟨Q⟩ = Q S := seenR_same (by simp) rfl
@[go_sem] theorem seenR_binOp {op : BinOp} {t u : TypeId} {x y : Operand} : @seenR P i e S a H H' (.binOp op t x y u) all ⟨Q⟩ = Q S := seenR_same (by simp) rfl
@[go_sem] theorem seenR_unOp {op : UnOp} {t : TypeId} {x : Operand} : @seenR P i e S a H H' (.unOp op t x) all ⟨Q⟩ = Q S := seenR_same (by simp) rfl
@[go_sem] theorem seenR_convert {t u : TypeId} {x : Operand} : @seenR P i e S a H H' (.convert t u x) all ⟨Q⟩ = Q S := seenR_same (by simp) rfl
def seenS (P : Program) (all : Array Oper) (i : Nat) (t : TypeId) (v : AV) (S : Seen) (H : Heap) [k : K (Seen → Prop)] : Prop :=
 match v with
 | .ptr j off => ∃ r, loadA P H t (.ptr j off) = some r ∧ (∀ s ∈ S.snaps, reachL all i s.1 = true ∨ loadA P s.2 t (.ptr j off) = some r) ∧ k.v { S with loads := (i, t, .ptr j off, r) :: S.loads }
 | _ => k.v S
@[go_sem] theorem seenR_slice {t : TypeId} {x : Operand} {l h m : Option Operand} : @seenR P i e S a H H' (.slice t x l h m) all ⟨Q⟩ = @seenS P all.v i t (ev e x) S H ⟨Q⟩ := by
 unfold seenR seenS
 show @bindP Seen (seenOK P all.v i e S (.slice t x l h m) a H H') ⟨Q⟩ = _
 unfold seenOK
 simp only
 generalize ev e x = v0
 cases v0 with
 | ptr j off =>
  simp only
  cases hl : loadA P H t (.ptr j off) with
  | none =>
   rw [Option.bind_none]
   refine propext ⟨?_, ?_⟩
   ·rintro ⟨_, hh, _⟩; cases hh
   ·rintro ⟨_, hh, _⟩; cases hh
  | some v =>
   rw [Option.bind_some]
   by_cases hc : ∀ s ∈ S.snaps, reachL all.v i s.1 = true ∨ loadA P s.2 t (.ptr j off) = some v
   ·rw [if_pos hc, bindP_some]
    refine propext ⟨fun q => ⟨v, rfl, hc, q⟩, ?_⟩
    rintro ⟨r, h1, _, h3⟩
    injection h1 with h1; subst h1; exact h3
   ·rw [if_neg hc]
    refine propext ⟨?_, ?_⟩
    ·rintro ⟨_, hh, _⟩; cases hh
    ·rintro ⟨r, h1, h2, _⟩
     injection h1 with h1; subst h1; exact absurd h2 hc
 | _ => exact bindP_some
@[go_sem] theorem seenS_v {al : Array Oper} {t : TypeId} {x : Value} : @seenS P al i t (.v x) S H ⟨Q⟩ = Q S := rfl
@[go_sem] theorem seenS_sl {al : Array Oper} {t : TypeId} {x : List AV} : @seenS P al i t (.sl x) S H ⟨Q⟩ = Q S := rfl
@[go_sem] theorem seenS_ow {al : Array Oper} {t : TypeId} {x : List AV} {j : Nat} : @seenS P al i t (.ow x j) S H ⟨Q⟩ = Q S := rfl
@[go_sem] theorem seenS_mr {al : Array Oper} {t j o l n : Nat} {g : Bool} : @seenS P al i t (.mr j o l n g) S H ⟨Q⟩ = Q S := rfl
@[go_sem] theorem seenS_owA {al : Array Oper} {t : TypeId} {x : List AV} : @seenS P al i t (owA (.sl x)) S H ⟨Q⟩ = Q S := rfl
@[go_sem] theorem seenR_fieldAddr {t : TypeId} {x : Operand} {f : Nat} : @seenR P i e S a H H' (.fieldAddr t x f) all ⟨Q⟩ = Q S := seenR_same (by simp) rfl
@[go_sem] theorem seenR_field {t : TypeId} {x : Operand} {f : Nat} : @seenR P i e S a H H' (.field t x f) all ⟨Q⟩ = Q S := seenR_same (by simp) rfl
@[go_sem] theorem seenR_indexAddr {t : TypeId} {x y : Operand} : @seenR P i e S a H H' (.indexAddr t x y) all ⟨Q⟩ = Q S := seenR_same (by simp) rfl
@[go_sem] theorem seenR_index {t : TypeId} {x y : Operand} : @seenR P i e S a H H' (.index t x y) all ⟨Q⟩ = Q S := seenR_same (by simp) rfl
@[go_sem] theorem seenR_extract {x : Operand} {n : Nat} : @seenR P i e S a H H' (.extract x n) all ⟨Q⟩ = Q S := seenR_same (by simp) rfl
@[go_sem] theorem seenR_makeFunc {f : Fn} {x y : Array Operand} : @seenR P i e S a H H' (.makeFunc f x y) all ⟨Q⟩ = Q S := seenR_same (by simp) rfl
@[go_sem] theorem seenR_len {x : Array Operand} {ts : Array TypeId} : @seenR P i e S a H H' (.call { callee := .builtin .len, args := x, argTypes := ts }) all ⟨Q⟩ = Q S := seenR_same (by simp) rfl
@[go_sem] theorem seenR_min {x : Array Operand} {ts : Array TypeId} : @seenR P i e S a H H' (.call { callee := .builtin .min, args := x, argTypes := ts }) all ⟨Q⟩ = Q S := seenR_same (by simp) rfl
@[go_sem] theorem seenR_max {x : Array Operand} {ts : Array TypeId} : @seenR P i e S a H H' (.call { callee := .builtin .max, args := x, argTypes := ts }) all ⟨Q⟩ = Q S := seenR_same (by simp) rfl
theorem seenR_eff0 {o : Op} {sn : List (Nat × Heap)} (h1 : ∀ t p, o ≠ .load t p) (h2 : effOp o = true) : @seenR P i e { snaps := sn, loads := [] } a H H' o all ⟨Q⟩ = Q { snaps := (i, H) :: sn, loads := [] } := by
 have : seenOK P all.v i e { snaps := sn, loads := [] } o a H H' = some { snaps := (i, H) :: sn, loads := [] } := by
  unfold seenOK
  split
  ·exact absurd rfl (h1 _ _)
  ·cases h2
  ·rw [if_pos h2, if_pos (fun l hl => by simp at hl)]
 unfold seenR
 rw [this, bindP_some]
def LoadsOK (P : Program) (all : Array Oper) (i : Nat) (H' : Heap) (l : List (Nat × TypeId × AV × AV)) : Prop := ∀ x ∈ l, reachE all 8 i x.1 = true ∨ loadA P H' x.2.1 x.2.2.1 = some x.2.2.2
section
variable {sn : List (Nat × Heap)}
@[go_sem] theorem seenR_assign0 {x : Operand} : @seenR P i e { snaps := sn, loads := [] } a H H' (.assign x) all ⟨Q⟩ = Q { snaps := (i, H) :: sn, loads := [] } := seenR_eff0 (by simp) rfl
@[go_sem] theorem seenR_alloc0 {t : TypeId} : @seenR P i e { snaps := sn, loads := [] } a H H' (.alloc t) all ⟨Q⟩ = Q { snaps := (i, H) :: sn, loads := [] } := seenR_eff0 (by simp) rfl
@[go_sem] theorem seenR_box0 {t : TypeId} {x : Operand} : @seenR P i e { snaps := sn, loads := [] } a H H' (.box t x) all ⟨Q⟩ = Q { snaps := (i, H) :: sn, loads := [] } := seenR_eff0 (by simp) rfl
@[go_sem] theorem seenR_store0 {t : TypeId} {x y : Operand} : @seenR P i e { snaps := sn, loads := [] } a H H' (.store t x y) all ⟨Q⟩ = Q { snaps := (i, H) :: sn, loads := [] } := seenR_eff0 (by simp) rfl
@[go_sem] theorem seenR_buildSlice0 {t n : Nat} {ps : Array (Nat × Operand)} : @seenR P i e { snaps := sn, loads := [] } a H H' (.buildSlice t n ps) all ⟨Q⟩ = Q { snaps := (i, H) :: sn, loads := [] } := seenR_eff0 (by simp) rfl
@[go_sem] theorem seenR_append0 {x : Array Operand} {ts : Array TypeId} : @seenR P i e { snaps := sn, loads := [] } a H H' (.call { callee := .builtin .append, args := x, argTypes := ts }) all ⟨Q⟩ = Q { snaps := (i, H) :: sn, loads := [] } := seenR_eff0 (by simp) rfl
@[go_sem] theorem seenR_call0 {f : Operand} {x : Array Operand} {ts : Array TypeId} : @seenR P i e { snaps := sn, loads := [] } a H H' (.call { callee := .value f, args := x, argTypes := ts }) all ⟨Q⟩ = Q { snaps := (i, H) :: sn, loads := [] } := seenR_eff0 (by simp) rfl
end
section
variable {sn : List (Nat × Heap)}
@[go_sem] theorem seenR_makeMap0 {t : TypeId} {r : Option Operand} : @seenR P i e { snaps := sn, loads := [] } a H H' (.makeMap t r) all ⟨Q⟩ = Q { snaps := (i, H) :: sn, loads := [] } := seenR_eff0 (by simp) rfl
@[go_sem] theorem seenR_makeSlice0 {t : TypeId} {x y : Operand} : @seenR P i e { snaps := sn, loads := [] } a H H' (.makeSlice t x y) all ⟨Q⟩ = Q { snaps := (i, H) :: sn, loads := [] } := seenR_eff0 (by simp) rfl
@[go_sem] theorem seenR_lookup0 {t : TypeId} {x y : Operand} {c : Bool} : @seenR P i e { snaps := sn, loads := [] } a H H' (.lookup t x y c) all ⟨Q⟩ = Q { snaps := (i, H) :: sn, loads := [] } := seenR_eff0 (by simp) rfl
@[go_sem] theorem seenR_mapUpdate0 {t : TypeId} {x y z : Operand} : @seenR P i e { snaps := sn, loads := [] } a H H' (.mapUpdate t x y z) all ⟨Q⟩ = Q { snaps := (i, H) :: sn, loads := [] } := seenR_eff0 (by simp) rfl
@[go_sem] theorem seenR_insert0 {t : TypeId} {x y z : Operand} : @seenR P i e { snaps := sn, loads := [] } a H H' (.insert t x y z) all ⟨Q⟩ = Q { snaps := (i, H) :: sn, loads := [] } := seenR_eff0 (by simp) rfl
@[go_sem] theorem seenR_delete0 {x : Array Operand} {ts : Array TypeId} : @seenR P i e { snaps := sn, loads := [] } a H H' (.call { callee := .builtin .delete, args := x, argTypes := ts }) all ⟨Q⟩ = Q { snaps := (i, H) :: sn, loads := [] } := seenR_eff0 (by simp) rfl
end
@[go_sem] theorem seenR_load0 {ls : List (Nat × TypeId × AV × AV)} {t : TypeId} {p : Operand} : @seenR P i e { snaps := [], loads := ls } a H H' (.load t p) all ⟨Q⟩ = Q { snaps := [], loads := (i, t, ev e p, a) :: ls } := by
 have : seenOK P all.v i e { snaps := [], loads := ls } (.load t p) a H H' = some { snaps := [], loads := (i, t, ev e p, a) :: ls } := by
  unfold seenOK
  simp only
  rw [if_pos (fun l hl => by simp at hl)]
 unfold seenR
 rw [this, bindP_some]
end
end
section
variable {P : Program} {C : Cfg} {d : Option Nat} {e : Env} {H : Heap} {Q : AV → Heap → Prop}
@[go_sem] theorem rS_move {x : Operand} : @rS P C d e H (.move x) ⟨Q⟩ = Q (ev e x) H := WS_move
def muP (b : Bool) [A : K Prop] [B : K Prop] : Prop := if b = true then A.v else B.v
@[go_sem] theorem muP_true {A : Prop} {B : K Prop} : @muP true ⟨A⟩ B = A := rfl
@[go_sem] theorem muP_false {A : K Prop} {B : Prop} : @muP false A ⟨B⟩ = B := rfl
@[go_sem] theorem isMu_none : C.isMu none = false := rfl
@[go_sem] theorem isMu_at {f : FuncId} {d : Nat} : (C.at f).isMu (some d) = C.muF f d := rfl
@[go_sem] theorem isFz_none : C.isFz none = false := rfl
@[go_sem] theorem isFz_at {f : FuncId} {d : Nat} : (C.at f).isFz (some d) = C.fzF f d := rfl
@[go_sem] theorem isTk_none : C.isTk none = false := rfl
@[go_sem] theorem isTk_at {f : FuncId} {d : Nat} : (C.at f).isTk (some d) = C.tkF f d := rfl
@[go_sem] theorem rS_assign_tmp {t : Nat} : @rS P C d e H (.assign (.tmp t)) ⟨Q⟩ = @muP (C.isFz d) ⟨@muP (C.isTk d) ⟨False⟩ ⟨@bindP _ (freezeA H (e t)) ⟨fun p => Q p.1 p.2⟩⟩⟩ ⟨Q (e t) H⟩ := by
 cases h : C.isFz d with
 | true =>
  cases h2 : C.isTk d with
  | true =>
   show WS P C d e H _ Q = False
   rw [WS_tk ((spec_fz rfl rfl rfl).trans h) h2]
   show @bindP (AV × Heap) none ⟨fun p => Q p.1 p.2⟩ = False
   simp [bindP]
  | false =>
   show WS P C d e H _ Q = @bindP _ (freezeA H (e t)) ⟨fun p => Q p.1 p.2⟩
   rw [WS_mu ((spec_fz rfl rfl rfl).trans h) h2]; rfl
 | false => exact WS_assign ((spec_fz rfl rfl rfl).trans h)
@[go_sem] theorem rS_assign_nil : @rS P C d e H (.assign (.const (.slice none 0 0))) ⟨Q⟩ = @muP (C.isMu d || C.isTk d) ⟨Q nilA H⟩ ⟨Q (.sl []) H⟩ := by
 cases h : (C.isMu d || C.isTk d) with
 | true =>
  cases h2 : C.isTk d with
  | true =>
   show WS P C d e H _ Q = Q nilA H
   rw [WS_tk ((spec_both rfl rfl rfl).trans h) h2, show tkA P e H (.assign (.const (.slice none 0 0))) = some (nilA, H) from rfl, bindP_some]
  | false =>
   show WS P C d e H _ Q = Q nilA H
   rw [WS_mu ((spec_both rfl rfl rfl).trans h) h2, show muA P e H (.assign (.const (.slice none 0 0))) = some (nilA, H) from rfl, bindP_some]
 | false => exact WS_assign ((spec_both rfl rfl rfl).trans h)
@[go_sem] theorem rS_assign_int {k : IntKind} {n : Int} : @rS P C d e H (.assign (.const (.int k n))) ⟨Q⟩ = Q (.v (.int k n)) H := WS_assign (spec_none rfl rfl)
@[go_sem] theorem rS_assign_bool {b : Bool} : @rS P C d e H (.assign (.const (.bool b))) ⟨Q⟩ = Q (.v (.bool b)) H := WS_assign (spec_none rfl rfl)
@[go_sem] theorem rS_assign_string {s : ByteArray} : @rS P C d e H (.assign (.const (.string s))) ⟨Q⟩ = Q (ev e (.const (.string s))) H := WS_assign (spec_none rfl rfl)
@[go_sem] theorem rS_assign_ptr : @rS P C d e H (.assign (.const (.pointer none))) ⟨Q⟩ = Q (.v (.pointer none)) H := WS_assign (spec_none rfl rfl)
@[go_sem] theorem rS_assign_agg {cs : Array Value} : @rS P C d e H (.assign (.const (.agg cs))) ⟨Q⟩ = Q (ev e (.const (.agg cs))) H := WS_assign (spec_none rfl rfl)
@[go_sem] theorem rS_assign_func {f : FuncId} : @rS P C d e H (.assign (.func f)) ⟨Q⟩ = Q (.fn f []) H := WS_assign (spec_none rfl rfl)
@[go_sem] theorem rS_append {x y : Operand} {t u : TypeId} : @rS P C d e H (.call { callee := .builtin .append, args := List.toArray [x, y], argTypes := List.toArray [t, u] }) ⟨Q⟩ =
  @muP (C.isTk d) ⟨@bindP _ (appendT P H t u (ev e x) (viewR P H u (ev e y))) ⟨fun p => Q p.1 p.2⟩⟩ ⟨@muP (C.isMu d) ⟨@bindP _ (appendM P H t u (ev e x) (viewR P H u (ev e y))) ⟨fun p => Q p.1 p.2⟩⟩ ⟨@bindP _ (builtinA P .append [t, u] [ev e x, viewR P H u (ev e y)]) ⟨fun a => Q a H⟩⟩⟩ := by
 cases h2 : C.isTk d with
 | true => exact WS_appendT h2
 | false =>
  cases h : C.isMu d with
  | true => exact WS_appendM h h2
  | false => exact WS_append h h2
@[go_sem] theorem rS_makeSlice {t : TypeId} {l c : Operand} : @rS P C d e H (.makeSlice t l c) ⟨Q⟩ = @muP (C.isMu d) ⟨@muP (C.isTk d) ⟨False⟩ ⟨@bindP _ (makeA P H t (ev e l) (ev e c)) ⟨fun p => Q p.1 p.2⟩⟩⟩ ⟨False⟩ := by
 cases h : C.isMu d with
 | true =>
  cases h2 : C.isTk d with
  | true =>
   show WS P C d e H _ Q = False
   rw [WS_tk ((spec_mu rfl rfl rfl).trans h) h2]
   show @bindP (AV × Heap) none ⟨fun p => Q p.1 p.2⟩ = False
   simp [bindP]
  | false => exact WS_makeSlice h h2
 | false =>
  show WS P C d e H _ Q = False
  rw [WS_opA ((spec_mu rfl rfl rfl).trans h) (fun _ => rfl)]
  show @bindP (AV × Heap) none ⟨fun p => Q p.1 p.2⟩ = False
  simp [bindP]
@[go_sem] theorem rS_makeMap {t : TypeId} : @rS P C d e H (.makeMap t none) ⟨Q⟩ = @bindP _ (mapTy P t) ⟨fun _ => Q (.mp H.length) (H ++ [[.mv [] []]])⟩ := WS_makeMap
@[go_sem] theorem rS_lookup {t : TypeId} {m k : Operand} {c : Bool} : @rS P C d e H (.lookup t m k c) ⟨Q⟩ = @bindP _ (lookupA P H t (ev e m) (ev e k) c) ⟨fun a => Q a H⟩ := WS_lookup
@[go_sem] theorem rS_mapUpdate {t : TypeId} {m k v : Operand} : @rS P C d e H (.mapUpdate t m k v) ⟨Q⟩ = @bindP _ (updateA P H t (ev e m) (ev e k) (ev e v)) ⟨fun H' => Q .un H'⟩ := WS_mapUpdate
@[go_sem] theorem rS_insert {t : TypeId} {m k v : Operand} : @rS P C d e H (.insert t m k v) ⟨Q⟩ = @bindP _ (updateA P H t (ev e m) (ev e k) (ev e v)) ⟨fun H' => Q .un H'⟩ := WS_insert
@[go_sem] theorem rS_delete {t u : TypeId} {m k : Operand} : @rS P C d e H (.call { callee := .builtin .delete, args := List.toArray [m, k], argTypes := List.toArray [t, u] }) ⟨Q⟩ = @bindP _ (deleteA P H t (ev e m) (ev e k)) ⟨fun H' => Q (.tup []) H'⟩ := WS_delete
@[go_sem] theorem rS_len {args : List Operand} {ts : List TypeId} : @rS P C d e H (.call { callee := .builtin .len, args := List.toArray args, argTypes := List.toArray ts }) ⟨Q⟩ = @bindP _ (builtinA P .len ts (args.map fun x => owA (ev e x))) ⟨fun a => Q a H⟩ := WS_len
@[go_sem] theorem rS_min {args : List Operand} {ts : List TypeId} : @rS P C d e H (.call { callee := .builtin .min, args := List.toArray args, argTypes := List.toArray ts }) ⟨Q⟩ = @bindP _ (builtinA P .min ts (args.map fun x => owA (ev e x))) ⟨fun a => Q a H⟩ := WS_min
@[go_sem] theorem rS_max {args : List Operand} {ts : List TypeId} : @rS P C d e H (.call { callee := .builtin .max, args := List.toArray args, argTypes := List.toArray ts }) ⟨Q⟩ = @bindP _ (builtinA P .max ts (args.map fun x => owA (ev e x))) ⟨fun a => Q a H⟩ := WS_max
@[go_sem] theorem rS_call {f g : FuncId} {args : List Operand} {ts : Array TypeId} {Q : K (AV → Heap → Prop)} : @rS P (C.at f) d e H (.call { callee := .value (.func g), args := List.toArray args, argTypes := ts }) Q = @muP ((C.at f).isMu d) ⟨@rFalt P C g (args.map fun x => argE C g e x) H Q⟩ ⟨@rF P C g (args.map fun x => argE C g e x) H Q⟩ := by
 show WS P (C.at f) d e H _ Q.v = _
 rw [WS_call]
 cases (C.at f).isMu d with
 | false =>
  show WF P (C.at f) g _ H Q.v = WF P C g _ H Q.v
  rw [WF.at]
  rfl
 | true =>
  show altF P (C.at f) g _ H Q.v = altF P C g _ H Q.v
  unfold altF
  have e1 : (C.at f).alt g = C.alt g := rfl
  rw [e1]
  cases C.alt g with
  | none => exact WF.at
  | some s => rfl
@[go_sem] theorem rS_pick {c a b : Operand} : @rS P C d e H (.pick c a b) ⟨Q⟩ = @bindP _ (pickA (ev e c) (ev e a) (ev e b)) ⟨fun v => Q v H⟩ := WS_pick
@[go_sem] theorem rS_alloc {t : TypeId} : @rS P C d e H (.alloc t) ⟨Q⟩ = @bindP _ (zeroA P t) ⟨fun z => Q (.ptr H.length 0) (H ++ [z])⟩ := WS_alloc
@[go_sem] theorem rS_box {t : TypeId} {x : Operand} : @rS P C d e H (.box t x) ⟨Q⟩ = @bindP _ (onlyD ((evX e x).cells.all AV.one) (evX e x).cells) ⟨fun z => Q (.ptr H.length 0) (H ++ [z])⟩ := by
 show WS P C d e H (.box t x) Q = _
 rw [WS_box]
 cases (evX e x).cells.all AV.one <;> rfl
@[go_sem] theorem rS_build {t : TypeId} {parts : List (Nat × Operand)} : @rS P C d e H (.build t (List.toArray parts)) ⟨Q⟩ = @bindP _ (buildA P t (parts.map fun p => (p.1, evX e p.2))) ⟨fun a => Q a H⟩ := WS_build
@[go_sem] theorem rS_buildSlice {t : TypeId} {n : Nat} {parts : List (Nat × Operand)} : @rS P C d e H (.buildSlice t n (List.toArray parts)) ⟨Q⟩ = @muP (C.isTk d) ⟨@bindP _ (buildT P H t n (parts.map fun p => (p.1, ev e p.2))) ⟨fun p => Q p.1 p.2⟩⟩ ⟨@muP (C.isMu d) ⟨@bindP _ (buildM P H t n (parts.map fun p => (p.1, ev e p.2))) ⟨fun p => Q p.1 p.2⟩⟩ ⟨@bindP _ (buildSliceA P t n (parts.map fun p => (p.1, ev e p.2))) ⟨fun a => Q a H⟩⟩⟩ := by
 cases h2 : C.isTk d with
 | true => exact WS_buildSliceT h2
 | false =>
  cases h : C.isMu d with
  | true => exact WS_buildSliceM h h2
  | false => exact WS_buildSlice h2 h
@[go_sem] theorem rS_load {t : TypeId} {x : Operand} : @rS P C d e H (.load t x) ⟨Q⟩ = @bindP _ (loadA P H t (ev e x)) ⟨fun a => Q a H⟩ := WS_load
@[go_sem] theorem rS_store {t : TypeId} {p x : Operand} : @rS P C d e H (.store t p x) ⟨Q⟩ = @bindP _ (storeA P H t (ev e p) (evX e x)) ⟨fun H' => Q .un H'⟩ := WS_store
@[go_sem] theorem rS_nilCheck {x : Operand} : @rS P C d e H (.nilCheck x) ⟨Q⟩ = @bindP _ (match ev e x with | .ptr j off => some (AV.ptr j off) | _ => none) ⟨fun a => Q a H⟩ := WS_nilCheck
@[go_sem] theorem rS_binOp {op : BinOp} {xt yt : TypeId} {x y : Operand} : @rS P C d e H (.binOp op xt x y yt) ⟨Q⟩ = @bindP _ (bin P op xt (ev e x) (ev e y)) ⟨fun a => Q a H⟩ := WS_binOp
@[go_sem] theorem rS_unOp {op : UnOp} {t : TypeId} {x : Operand} : @rS P C d e H (.unOp op t x) ⟨Q⟩ = @bindP _ (un1 op (ev e x)) ⟨fun a => Q a H⟩ := WS_unOp
@[go_sem] theorem rS_convert {s u : TypeId} {x : Operand} : @rS P C d e H (.convert s u x) ⟨Q⟩ = @muP (C.isMu d) ⟨@muP (C.isTk d) ⟨False⟩ ⟨@bindP _ (convM P H s u (ev e x)) ⟨fun p => Q p.1 p.2⟩⟩⟩ ⟨@bindP _ (conv P s u (plainA (ev e x))) ⟨fun a => Q a H⟩⟩ := by
 cases h : C.isMu d with
 | true =>
  cases h2 : C.isTk d with
  | true =>
   show WS P C d e H _ Q = False
   rw [WS_tk ((spec_mu rfl rfl rfl).trans h) h2]
   show @bindP (AV × Heap) none ⟨fun p => Q p.1 p.2⟩ = False
   simp [bindP]
  | false => exact WS_convertM h h2
 | false => exact WS_convert h
@[go_sem] theorem rS_slice {t : TypeId} {x : Operand} {lo hi mx : Option Operand} : @rS P C d e H (.slice t x lo hi mx) ⟨Q⟩ = @muP (C.isMu d) ⟨@muP (C.isTk d) ⟨False⟩ ⟨@bindP _ (sliceM P H t (ev e x) (lo.map (ev e)) (hi.map (ev e)) (mx.map (ev e))) ⟨fun p => Q p.1 p.2⟩⟩⟩ ⟨@bindP _ (sliceA P t (owA (ev e x)) (lo.map (ev e)) (hi.map (ev e)) (mx.map (ev e))) ⟨fun a => Q a H⟩⟩ := by
 cases h : C.isMu d with
 | true =>
  cases h2 : C.isTk d with
  | true =>
   show WS P C d e H _ Q = False
   rw [WS_tk ((spec_mu rfl rfl rfl).trans h) h2]
   show @bindP (AV × Heap) none ⟨fun p => Q p.1 p.2⟩ = False
   simp [bindP]
  | false => exact WS_sliceM h h2
 | false => exact WS_slice h
@[go_sem] theorem rS_copy {x y : Operand} {t u : TypeId} : @rS P C d e H (.call { callee := .builtin .copy, args := List.toArray [x, y], argTypes := List.toArray [t, u] }) ⟨Q⟩ = @muP (C.isMu d) ⟨@muP (C.isTk d) ⟨False⟩ ⟨@bindP _ (copyM P H t u (ev e x) (owA (ev e y))) ⟨fun p => Q p.1 p.2⟩⟩⟩ ⟨False⟩ := by
 cases h : C.isMu d with
 | true =>
  cases h2 : C.isTk d with
  | true =>
   show WS P C d e H _ Q = False
   rw [WS_tk ((spec_mu rfl rfl rfl).trans h) h2]
   show @bindP (AV × Heap) none ⟨fun p => Q p.1 p.2⟩ = False
   simp [bindP]
  | false => exact WS_copy h h2
 | false =>
  show WS P C d e H _ Q = False
  rw [WS_opA ((spec_mu rfl rfl rfl).trans h) (fun _ => rfl)]
  show @bindP (AV × Heap) ((builtinA P .copy [t, u] [owA (ev e x), owA (ev e y)]).map fun a => (a, H)) ⟨fun p => Q p.1 p.2⟩ = False
  simp [bindP, builtinA]
@[go_sem] theorem rS_fieldAddr {s : TypeId} {x : Operand} {f : Nat} : @rS P C d e H (.fieldAddr s x f) ⟨Q⟩ = @bindP _ (fieldAddrA P s (ev e x) f) ⟨fun a => Q a H⟩ := WS_fieldAddr
@[go_sem] theorem rS_field {s : TypeId} {x : Operand} {f : Nat} : @rS P C d e H (.field s x f) ⟨Q⟩ = @bindP _ (fieldA P s (ev e x) f) ⟨fun a => Q a H⟩ := WS_field
@[go_sem] theorem rS_indexAddr {t : TypeId} {x i : Operand} : @rS P C d e H (.indexAddr t x i) ⟨Q⟩ = @bindP _ (indexAddrA P t (owA (ev e x)) (ev e i)) ⟨fun a => Q a H⟩ := WS_indexAddr
@[go_sem] theorem rS_index {t : TypeId} {x i : Operand} : @rS P C d e H (.index t x i) ⟨Q⟩ = @bindP _ (indexA P t (ev e x) (ev e i)) ⟨fun a => Q a H⟩ := WS_index
@[go_sem] theorem rS_extract {t : Operand} {i : Nat} : @rS P C d e H (.extract t i) ⟨Q⟩ = @bindP _ (extractA (ev e t) i) ⟨fun a => Q a H⟩ := WS_extract
@[go_sem] theorem rS_makeFunc {g : FuncId} {caps : List Operand} : @rS P C d e H (.makeFunc (.func g) (List.toArray []) (List.toArray caps)) ⟨Q⟩ = Q (.fn g (caps.map (ev e))) H := WS_makeFunc
end
section
variable {P : Program} {e : Env} {H : Heap}
@[go_sem] theorem owA_v {x : Value} : owA (.v x) = .v x := rfl
@[go_sem] theorem owA_sl {xs : List AV} : owA (.sl xs) = .sl xs := rfl
@[go_sem] theorem owA_ow {xs : List AV} {j : Nat} : owA (.ow xs j) = .sl xs := rfl
@[go_sem] theorem owA_mr {j off len n : Nat} {g : Bool} : owA (.mr j off len n g) = .mr j off len n g := rfl
@[go_sem] theorem owA_ptr {j off : Nat} : owA (.ptr j off) = .ptr j off := rfl
@[go_sem] theorem owA_ea {a : AV} {off : Nat} : owA (.ea a off) = .ea a off := rfl
@[go_sem] theorem owA_mp {j : Nat} : owA (.mp j) = .mp j := rfl
@[go_sem] theorem owA_agg {xs : List AV} : owA (.agg xs) = .agg xs := rfl
@[go_sem] theorem plainA_sl {xs : List AV} : plainA (.sl xs) = .sl xs := rfl
@[go_sem] theorem plainA_ow {xs : List AV} {j : Nat} : plainA (.ow xs j) = .sl xs := rfl
@[go_sem] theorem plainA_mr {j off len n : Nat} {g : Bool} : plainA (.mr j off len n g) = .mr j off len n g := rfl
@[go_sem] theorem plainA_ptr {j off : Nat} : plainA (.ptr j off) = .ptr j off := rfl
@[go_sem] theorem plainA_ea {a : AV} {off : Nat} : plainA (.ea a off) = .ea a off := rfl
@[go_sem] theorem plainA_mp {j : Nat} : plainA (.mp j) = .mp j := rfl
@[go_sem] theorem plainA_agg {xs : List AV} : plainA (.agg xs) = .agg xs := rfl
@[go_sem] theorem plainA_fn {f : FuncId} {xs : List AV} : plainA (.fn f xs) = .fn f xs := rfl
@[go_sem] theorem plainA_int {k : IntKind} {n : Int} : plainA (.v (.int k n)) = .v (.int k n) := rfl
@[go_sem] theorem plainA_bool {b : Bool} : plainA (.v (.bool b)) = .v (.bool b) := rfl
@[go_sem] theorem plainA_string {s : ByteArray} : plainA (.v (.string s)) = .v (.string s) := rfl
@[go_sem] theorem plainA_pnil : plainA (.v (.pointer none)) = .v (.pointer none) := rfl
@[go_sem] theorem plainA_mnil : plainA (.v (.map none)) = .v (.map none) := rfl
@[go_sem] theorem plainA_nil : plainA nilA = .sl [] := rfl
@[go_sem] theorem plainA_nil' : plainA (.v (.slice none 0 0)) = .sl [] := rfl
@[go_sem] theorem argE_is {C : Cfg} {g : FuncId} {x : Operand} : argE C g e x = bif C.raw g then evX e x else plainA (ev e x) := rfl
attribute [go_sem] cond_true cond_false
@[go_sem] theorem evX_tmp {t : Nat} : evX e (.tmp t) = e t := rfl
@[go_sem] theorem evX_int {k : IntKind} {n : Int} : evX e (.const (.int k n)) = .v (.int k n) := rfl
@[go_sem] theorem evX_bool {b : Bool} : evX e (.const (.bool b)) = .v (.bool b) := rfl
@[go_sem] theorem evX_nil : evX e (.const (.slice none 0 0)) = nilA := rfl
@[go_sem] theorem evX_ptr : evX e (.const (.pointer none)) = .v (.pointer none) := rfl
@[go_sem] theorem evX_func {f : FuncId} : evX e (.func f) = .fn f [] := rfl
@[go_sem] theorem evX_string {s : ByteArray} : evX e (.const (.string s)) = ev e (.const (.string s)) := rfl
@[go_sem] theorem ev_tmp {t : Nat} : ev e (.tmp t) = e t := rfl
@[go_sem] theorem ev_int {k : IntKind} {n : Int} : ev e (.const (.int k n)) = .v (.int k n) := rfl
@[go_sem] theorem ev_bool {b : Bool} : ev e (.const (.bool b)) = .v (.bool b) := rfl
@[go_sem] theorem ev_nil : ev e (.const (.slice none 0 0)) = .sl [] := rfl
@[go_sem] theorem ev_ptr : ev e (.const (.pointer none)) = .v (.pointer none) := rfl
@[go_sem] theorem ev_func {f : FuncId} : ev e (.func f) = .fn f [] := rfl
@[go_sem] theorem put_some {d : Nat} {a : AV} : put e (some d) a = upd e d a := rfl
@[go_sem] theorem put_none {a : AV} : put e none a = e := rfl
def sel (b : Bool) (t : Nat) [a : K AV] [e : K Env] : AV := bif b then a.v else e.v t
@[go_sem] theorem sel_true {t : Nat} {a : AV} {e : K Env} : @sel true t ⟨a⟩ e = a := rfl
@[go_sem] theorem sel_false {t : Nat} {a : K AV} {e : Env} : @sel false t a ⟨e⟩ = e t := rfl
@[go_sem] theorem upd_app {d t : Nat} {a : AV} : upd e d a t = @sel (t == d) t ⟨a⟩ ⟨e⟩ := by
 unfold upd sel
 by_cases h : t = d
 ·rw [if_pos h, show (t == d) = true by simpa using h]; rfl
 ·rw [if_neg h, show (t == d) = false by simpa using h]; rfl
end
end Go.Lv
