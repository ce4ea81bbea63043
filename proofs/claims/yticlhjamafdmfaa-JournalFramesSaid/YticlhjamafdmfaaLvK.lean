import Derived.Test.YticlhjamafdmfaaLvJ
set_option linter.unusedVariables false
set_option linter.unusedSimpArgs false
namespace Go.Lv

abbrev NX : Nat → Prop := fun _ => False

def compOf (v : Value) : Nat → Value
  | 0 => v
  | i + 1 => match v with | .tuple vs => vs.getD i undef | _ => undef

def valAt (a : Act) (t c : Nat) : Value := compOf (a.tmps.getD t undef) c

/-- A place in the middle of a function: (F0, L0, w0) is where it began, G: rows that it was given. -/
structure Inv (P : Program) (G : Nat → Prop) (F0 : Facts) (L0 : List Nat) (w0 : World) (N : Nat) (O : OSet) (e : Env) (H : Heap) (F : Facts) (L : List Nat) (a : Act) (w : World) : Prop where
  st : St P F L NX w H
  goes : Goes G F0 L0 w0 F L w
  tie : ∀ t, Rel F L (e t) (a.tmps.getD t undef)
  size : N ≤ a.tmps.size
  defers : a.defers = []
  own : ∀ p ∈ O, Own F L NX w p.2.2 (valAt a p.1 p.2.1)
  apart : ∀ p ∈ O, ∀ q ∈ O, (p.1, p.2.1) ≠ (q.1, q.2.1) → ∀ B, (valAt a p.1 p.2.1).ownBlock = some B → (valAt a q.1 q.2.1).ownBlock ≠ some B
  frm : ∀ p ∈ O, ∀ B, (valAt a p.1 p.2.1).ownBlock = some B → G B ∨ w0.heap.size ≤ B

section
variable {P : Program} {C : Cfg} {G : Nat → Prop} {F0 : Facts} {L0 : List Nat} {w0 : World} {N : Nat} {O O' : OSet} {e : Env} {H : Heap} {F : Facts} {L : List Nat} {a : Act} {w : World}

theorem Inv.ev (h : Inv P G F0 L0 w0 N O e H F L a w) (x : Operand) : Rel F L (ev e x) (a.eval x) := by
  cases x with
  | tmp t => exact h.tie t
  | const v => exact lit_rel F L v
  | global g => exact .un _
  | func f => exact .fn f [] [] rfl (fun k c hk => by simp at hk)

theorem Inv.sub (h : Inv P G F0 L0 w0 N O e H F L a w) (hs : ∀ p ∈ O', p ∈ O) : Inv P G F0 L0 w0 N O' e H F L a w :=
  ⟨h.st, h.goes, h.tie, h.size, h.defers, fun p hp => h.own p (hs p hp), fun p hp q hq => h.apart p (hs p hp) q (hs q hq), fun p hp => h.frm p (hs p hp)⟩

theorem own_block_lt {F : Facts} {L : List Nat} {X : Nat → Prop} {w : World} {n : Nat} {v : Value} (h : Own F L X w n v) {B : Nat} (hB : v.ownBlock = some B) : B < w.heap.size := by
  cases v with
  | slice a len cap =>
    cases a with
    | none => simp [Value.ownBlock] at hB
    | some ad => simp [Value.ownBlock] at hB; subst hB; exact (h ad len cap rfl).2.2.2.2.1
  | _ => simp [Value.ownBlock] at hB

theorem getD_put (a : Act) (d : Option Nat) (u : Value) (t : Nat) (hd : ∀ d', d = some d' → d' < a.tmps.size) : (a.put d u).tmps.getD t undef = if d = some t then u else a.tmps.getD t undef := by
  cases d with
  | none => simp [Act.put]
  | some d =>
    simp only [Act.put, Array.getD_eq_getD_getElem?, Array.getElem?_setIfInBounds, Option.some.injEq]
    by_cases h : d = t
    · subst h
      simp [hd d rfl]
    · simp [h]

theorem put_apply (e : Env) (d : Option Nat) (r : AV) (t : Nat) : put e d r t = if d = some t then r else e t := by
  cases d with
  | none => simp [put]
  | some d =>
    simp only [put, upd, Option.some.injEq]
    by_cases h : t = d
    · subst h; simp
    · simp [h, Ne.symm h]

theorem valAt_put (a : Act) (d : Option Nat) (u : Value) (t c : Nat) (hd : ∀ d', d = some d' → d' < a.tmps.size) (ht : d ≠ some t) : valAt (a.put d u) t c = valAt a t c := by
  unfold valAt
  rw [getD_put a d u t hd, if_neg ht]

theorem mem_killO {d : Option Nat} {p : Nat × Nat × Nat} (h : p ∈ killO d O) : p ∈ O ∧ d ≠ some p.1 := by
  cases d with
  | none => exact ⟨h, by simp⟩
  | some d =>
    simp only [killO, List.mem_filter, bne_iff_ne] at h
    exact ⟨h.1, fun e => h.2 (by injection e with e; exact e.symm)⟩

/-- The step of an operation that wrote only what was handed over (G1), its value u. -/
theorem Inv.step (h : Inv P G F0 L0 w0 N O e H F L a w) {G1 : Nat → Prop} {F' : Facts} {L' : List Nat} {w' : World} {H' : Heap} {d : Option Nat} {r : AV} {u : Value} {O1 new : OSet}
    (hd : ∀ d', d = some d' → d' < N) (hs : St P F' L' NX w' H') (hg : Goes G1 F L w F' L' w') (hr : Rel F' L' r u)
    (hG : ∀ B, B < w0.heap.size → G1 B → G B)
    (hO : ∀ p ∈ O1, p ∈ O) (hG1 : ∀ p ∈ O1, ∀ B, (valAt a p.1 p.2.1).ownBlock = some B → ¬ G1 B)
    (hnew : ∀ p ∈ new, d = some p.1 ∧ Own F' L' NX w' p.2.2 (compOf u p.2.1) ∧ ∀ B, (compOf u p.2.1).ownBlock = some B → G1 B ∨ w.heap.size ≤ B)
    (hfrm : ∀ p ∈ new, ∀ B, (compOf u p.2.1).ownBlock = some B → G B ∨ w0.heap.size ≤ B)
    (hap : ∀ p ∈ new, ∀ q ∈ new, (p.1, p.2.1) ≠ (q.1, q.2.1) → ∀ B, (compOf u p.2.1).ownBlock = some B → (compOf u q.2.1).ownBlock ≠ some B) :
    Inv P G F0 L0 w0 N (new ++ killO d O1) (put e d r) H' F' L' (a.put d u) w' := by
  have hd' : ∀ d', d = some d' → d' < a.tmps.size := fun d' he => Nat.lt_of_lt_of_le (hd d' he) h.size
  have hold : ∀ p ∈ killO d O1, p ∈ O ∧ d ≠ some p.1 ∧ p ∈ O1 := fun p hp => ⟨hO p (mem_killO hp).1, (mem_killO hp).2, (mem_killO hp).1⟩
  have hval : ∀ p ∈ killO d O1, valAt (a.put d u) p.1 p.2.1 = valAt a p.1 p.2.1 := fun p hp => valAt_put a d u _ _ hd' (hold p hp).2.1
  have hvaln : ∀ p ∈ new, valAt (a.put d u) p.1 p.2.1 = compOf u p.2.1 := fun p hp => by
    unfold valAt
    rw [getD_put a d u _ hd', if_pos (hnew p hp).1]
  have hown : ∀ p ∈ killO d O1, Own F' L' NX w' p.2.2 (valAt a p.1 p.2.1) := fun p hp => (h.own p (hold p hp).1).goes hg (hG1 p (hold p hp).2.2)
  have hlt : ∀ p ∈ killO d O1, ∀ B, (valAt a p.1 p.2.1).ownBlock = some B → B < w.heap.size := fun p hp B hB => own_block_lt (h.own p (hold p hp).1) hB
  refine ⟨hs, (h.goes.trans hg).weaken (fun B hB hh => hh.elim id (hG B hB)), fun t => ?_, ?_, ?_, fun p hp => ?_, fun p hp q hq hne B hB => ?_, fun p hp B hB => ?_⟩
  · rw [put_apply, getD_put a d u t hd']
    split
    · exact hr
    · exact (h.tie t).goes hg
  · cases d with
    | none => exact h.size
    | some d => simpa [Act.put] using h.size
  · cases d with
    | none => exact h.defers
    | some d => exact h.defers
  · rcases List.mem_append.1 hp with hp | hp
    · rw [hvaln p hp]; exact (hnew p hp).2.1
    · rw [hval p hp]; exact hown p hp
  · rcases List.mem_append.1 hp with hp | hp <;> rcases List.mem_append.1 hq with hq | hq
    · rw [hvaln p hp] at hB; rw [hvaln q hq]; exact hap p hp q hq hne B hB
    · rw [hvaln p hp] at hB; rw [hval q hq]
      intro hq'
      rcases (hnew p hp).2.2 B hB with h1 | h1
      · exact hG1 q (hold q hq).2.2 B hq' h1
      · have := hlt q hq B hq'; omega
    · rw [hval p hp] at hB; rw [hvaln q hq]
      intro hq'
      rcases (hnew q hq).2.2 B hq' with h1 | h1
      · exact hG1 p (hold p hp).2.2 B hB h1
      · have := hlt p hp B hB; omega
    · rw [hval p hp] at hB; rw [hval q hq]
      exact h.apart p (hold p hp).1 q (hold q hq).1 hne B hB
  · rcases List.mem_append.1 hp with hp | hp
    · rw [hvaln p hp] at hB; exact hfrm p hp B hB
    · rw [hval p hp] at hB; exact h.frm p (hold p hp).1 B hB

/-! ### Calls -/
def ArgsOwn (ps : List (Option Nat)) (F : Facts) (L : List Nat) (w : World) (vs : List Value) : Prop :=
  (∀ (k n : Nat), ps[k]? = some (some n) → Own F L NX w n (vs.getD k undef)) ∧
  ∀ (j k n m : Nat), ps[j]? = some (some n) → ps[k]? = some (some m) → j ≠ k → ∀ B, (vs.getD j undef).ownBlock = some B → (vs.getD k undef).ownBlock ≠ some B

def GP (ps : List (Option Nat)) (vs : List Value) : Nat → Prop := fun B => ∃ k n : Nat, ps[k]? = some (some n) ∧ (vs.getD k undef).ownBlock = some B

structure Ret (P : Program) (s : Sig) (F : Facts) (L : List Nat) (w : World) (vs : List Value) (r : AV) (H' : Heap) (v : Value) (F' : Facts) (L' : List Nat) (w' : World) : Prop where
  rel : Rel F' L' r v
  st : St P F' L' NX w' H'
  goes : Goes (GP s.ps vs) F L w F' L' w'
  own : ∀ p ∈ s.rs, Own F' L' NX w' p.2 (compOf v p.1) ∧ ∀ B, (compOf v p.1).ownBlock = some B → GP s.ps vs B ∨ w.heap.size ≤ B
  apart : ∀ p ∈ s.rs, ∀ q ∈ s.rs, p.1 ≠ q.1 → ∀ B, (compOf v p.1).ownBlock = some B → (compOf v q.1).ownBlock ≠ some B

/-- The call of f, at these arguments: what it comes to. -/
def CallOK (P : Program) (s : Sig) (f : FuncId) (args : List AV) (H : Heap) (r : AV) (H' : Heap) : Prop :=
  ∀ (F : Facts) (L : List Nat) (w : World) (vs : List Value), St P F L NX w H → vs.length = args.length → (∀ (k : Nat) (c : AV), args[k]? = some c → Rel F L c (vs.getD k undef)) → ArgsOwn s.ps F L w vs →
    Calls P f vs.toArray w (fun e w' => ∃ v F' L', e = .returned v ∧ Ret P s F L w vs r H' v F' L' w')

structure Callable (P : Program) (f : FuncId) : Prop where
  mk :: (out : ∃ fn, P.funcs[f]? = some fn ∧ fn.body.isSome = true ∧ (fn.name == "runtime.NumGoroutine") = false)

theorem callFunc_run {f : FuncId} (h : Callable P f) (vs : Array Value) : (callFunc f vs).run P w = .ok (.enter f vs) w := by
  obtain ⟨fn, h1, h2, h3⟩ := h.out
  have h5 : ¬ fn.name = "runtime.NumGoroutine" := by simpa using h3
  cases hb : fn.body with
  | none => rw [hb] at h2; cases h2
  | some c => simp [callFunc, h1, h5, hb]

theorem getD_toList (a : Array Value) (k : Nat) : a.toList.getD k undef = a.getD k undef := by
  simp [List.getD_eq_getElem?_getD, Array.getD_eq_getD_getElem?]
end
end Go.Lv
