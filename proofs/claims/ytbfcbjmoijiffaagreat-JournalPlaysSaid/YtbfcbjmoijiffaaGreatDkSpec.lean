/- A value semantics of the loaded code, its soundness, and walks through functions over it. -/
/-! What the disk is, in plain Lean. -/
namespace Dk
abbrev Bs := List UInt8
structure Ev where
  at_ : Int
  kind : Int
  keep : Int
  torn : Int
  deriving Inhabited
structure Ch where
  name : Bs
  frm : Bs
  data : Bs
  puts : Bool
  behind : Bool
  deriving Inhabited
abbrev Files := List (Bs × Bs)
def get : Files → Bs → Option Bs
  | [], _ => none
  | (k, v) :: r, n => if n = k then some v else get r n
def set : Files → Bs → Bs → Files
  | [], n, b => [(n, b)]
  | (k, v) :: r, n, b => if n = k then (k, b) :: r else (k, v) :: set r n b
def del : Files → Bs → Files
  | [], _ => []
  | (k, v) :: r, n => if n = k then r else (k, v) :: del r n
def data (f : Files) (n : Bs) : Bs := (get f n).getD []
def make (f : Files) (c : Ch) : Files :=
  if c.behind = true then set f c.name (data f c.name ++ c.data)
  else if c.puts = true then set f c.name c.data
  else if c.frm ≠ [] then set (del f c.frm) c.name (data f c.frm)
  else del f c.name
def used (f : Files) : Nat := (f.map fun p => p.2.length).sum
def okc (c : UInt8) : Bool := (decide (97 ≤ c.toNat) && decide (c.toNat ≤ 122)) || (decide (65 ≤ c.toNat) && decide (c.toNat ≤ 90)) || (decide (48 ≤ c.toNat) && decide (c.toNat ≤ 57)) || decide (c.toNat = 46) || decide (c.toNat = 45) || decide (c.toNat = 95)
def nameOk (s : Bs) : Bool := s.all okc && decide (s ≠ []) && decide (s.length ≤ 64)
structure Disk where
  room : Int
  now : Files
  dur : Files
  pend : List Ch
  plan : List Ev
  calls : Int
  down : Bool
def torn (c : Ch) (n : Int) : Option Ch := if (c.puts = false ∧ c.behind = false) ∨ n < 0 ∨ (c.data.length : Int) ≤ n then none else some { c with data := c.data.take n.toNat }
/-- How many pending changes stay. -/
def kept (s : Disk) (keep : Int) : Nat := (min (max keep 0) s.pend.length).toNat
def fallen (s : Disk) (keep part : Int) : Files :=
  let d := (s.pend.take (kept s keep)).foldl make s.dur
  match s.pend[kept s keep]? with
  | some c => match torn c part with
    | some c => make d c
    | none => d
  | none => d
def crash (s : Disk) (keep part : Int) : Disk := if s.down = true then s else { s with now := fallen s keep part, dur := fallen s keep part, pend := [], down := true }
def evStep (st : Disk × Bool × Bool) (e : Ev) : Disk × Bool × Bool :=
  if e.at_ ≠ st.1.calls then st
  else if e.kind = 1 then (crash st.1 e.keep e.torn, st.2.1, st.2.2)
  else if e.kind = 2 then (st.1, true, st.2.2)
  else if e.kind = 3 then (st.1, st.2.1, true)
  else st
def events (s : Disk) : Disk × Bool × Bool := s.plan.foldl evStep ({ s with calls := s.calls + 1 }, false, false)
/-- A call's beginning: what there is now, no room, an error. -/
def call (s : Disk) (names : List Bs) : Disk × Bool × Int :=
  let r := events s
  (r.1, r.2.1, if r.1.down = true then 9 else if r.2.2 = true then 8 else if names.all nameOk = false then 4 else 0)
def does (s : Disk) (c : Ch) : Disk := { s with now := make s.now c, pend := s.pend ++ [c] }
def lay (s : Disk) (c : Ch) (more : Int) (full : Bool) : Disk × Int := if full = true ∨ s.room - used s.now < more then (s, 7) else (does s c, 0)
def write (s : Disk) (n b : Bs) : Disk × Int :=
  let r := call s [n]
  if r.2.2 ≠ 0 then (r.1, r.2.2) else lay r.1 ⟨n, [], b, true, false⟩ ((b.length : Int) - (data r.1.now n).length) r.2.1
def append (s : Disk) (n b : Bs) : Disk × Int :=
  let r := call s [n]
  if r.2.2 ≠ 0 then (r.1, r.2.2) else lay r.1 ⟨n, [], b, false, true⟩ b.length r.2.1
def has (f : Files) (n : Bs) : Bool := (get f n).isSome
def rename (s : Disk) (a b : Bs) : Disk × Int :=
  let r := call s [a, b]
  if r.2.2 ≠ 0 then (r.1, r.2.2) else if has r.1.now a = false then (r.1, 6) else if a = b then (r.1, 0) else (does r.1 ⟨b, a, [], false, false⟩, 0)
def delete (s : Disk) (n : Bs) : Disk × Int :=
  let r := call s [n]
  if r.2.2 ≠ 0 then (r.1, r.2.2) else if has r.1.now n = false then (r.1, 6) else (does r.1 ⟨n, [], [], false, false⟩, 0)
def sync (s : Disk) : Disk × Int :=
  let r := call s []
  if r.2.2 ≠ 0 then (r.1, r.2.2) else ({ r.1 with dur := r.1.now, pend := [] }, 0)
def read (s : Disk) (n : Bs) : Disk × Bs × Int :=
  let r := call s [n]
  if r.2.2 ≠ 0 then (r.1, [], r.2.2) else match get r.1.now n with
    | some b => (r.1, b, 0)
    | none => (r.1, [], 6)

/-! ### What stays -/
def Len : Nat := 1073741824
structure Ok (s : Disk) : Prop where
  room : 0 ≤ s.room ∧ s.room ≤ Len
  now : s.now = s.pend.foldl make s.dur
  size : ∀ k, used ((s.pend.take k).foldl make s.dur) ≤ Len
  pend : (s.pend.length : Int) ≤ s.calls
  calls : 0 ≤ s.calls
  nil : ∀ c ∈ s.pend, ¬ (c.puts = true ∨ c.behind = true) → c.data = []

theorem used_cons (p : Bs × Bs) (f : Files) : used (p :: f) = p.2.length + used f := by simp [used]
theorem used_set (f : Files) (n b : Bs) : used (set f n b) + (data f n).length = used f + b.length := by
  induction f with
  | nil => simp [set, used, data, get]
  | cons p f ih =>
    obtain ⟨k, v⟩ := p
    unfold set data get
    by_cases h : n = k
    · rw [if_pos h, if_pos h, used_cons, used_cons]; simp; omega
    · rw [if_neg h, if_neg h, used_cons, used_cons]
      have ih := ih
      unfold data at ih
      omega
theorem used_del (f : Files) (n : Bs) : used (del f n) + (data f n).length = used f := by
  induction f with
  | nil => simp [del, used, data, get]
  | cons p f ih =>
    obtain ⟨k, v⟩ := p
    unfold del data get
    by_cases h : n = k
    · rw [if_pos h, if_pos h, used_cons]; simp; omega
    · rw [if_neg h, if_neg h, used_cons, used_cons]
      have ih := ih
      unfold data at ih
      omega
theorem data_le (f : Files) (n : Bs) : (data f n).length ≤ used f := by have := used_del f n; omega
/-- What a change adds at most. -/
theorem used_make (f : Files) (c : Ch) : used (make f c) ≤ used f + c.data.length := by
  unfold make
  split
  · have := used_set f c.name (data f c.name ++ c.data)
    rw [List.length_append] at this
    omega
  · split
    · have := used_set f c.name c.data
      omega
    · split
      · have h1 := used_set (del f c.frm) c.name (data f c.frm)
        have h2 := used_del f c.frm
        omega
      · have := used_del f c.name
        omega
theorem used_torn (f : Files) (c c' : Ch) (n : Int) (h : torn c n = some c') : used (make f c') ≤ used (make f c) := by
  unfold torn at h
  split at h
  · cases h
  · rename_i h0
    injection h with h; subst h
    unfold make
    simp only
    split
    · have h1 := used_set f c.name (data f c.name ++ c.data)
      have h2 := used_set f c.name (data f c.name ++ c.data.take n.toNat)
      simp only [List.length_append, List.length_take] at h1 h2
      omega
    · split
      · have h1 := used_set f c.name c.data
        have h2 := used_set f c.name (c.data.take n.toNat)
        simp only [List.length_take] at h2
        omega
      · rename_i h1 h2
        exfalso
        apply h0
        left
        constructor
        · simpa using h2
        · simpa using h1
theorem fold_snoc (s : Disk) (k : Nat) (h : k < s.pend.length) : (s.pend.take (k + 1)).foldl make s.dur = make ((s.pend.take k).foldl make s.dur) s.pend[k] := by
  rw [List.take_succ_eq_append_getElem h, List.foldl_append]; rfl
theorem used_data (f : Files) (c : Ch) (h : c.puts = true ∨ c.behind = true) : c.data.length ≤ used (make f c) := by
  unfold make
  split
  · have := used_set f c.name (data f c.name ++ c.data)
    have h2 := data_le f c.name
    rw [List.length_append] at this
    omega
  · split
    · have := used_set f c.name c.data
      have h2 := data_le f c.name
      omega
    · rename_i h1 h2
      rcases h with h | h
      · exact absurd h h2
      · exact absurd h h1
theorem Ok.data_len {s : Disk} (h : Ok s) (k : Nat) (hk : k < s.pend.length) : s.pend[k].data.length ≤ Len := by
  by_cases hc : s.pend[k].puts = true ∨ s.pend[k].behind = true
  · have h1 := h.size (k + 1)
    rw [fold_snoc s k hk] at h1
    have := used_data ((s.pend.take k).foldl make s.dur) s.pend[k] hc
    omega
  · have := h.nil s.pend[k] (List.getElem_mem hk) hc
    rw [this]; simp
theorem fallen_size (s : Disk) (h : Ok s) (keep part : Int) : used (fallen s keep part) ≤ Len := by
  unfold fallen
  simp only
  have h1 := h.size (kept s keep)
  split
  · rename_i c hc
    split
    · rename_i c' hc'
      have hl := (List.getElem?_eq_some_iff.1 hc).1
      have h2 := h.size (kept s keep + 1)
      rw [fold_snoc s _ hl] at h2
      have h3 := used_torn ((s.pend.take (kept s keep)).foldl make s.dur) c c' part hc'
      have : s.pend[kept s keep] = c := (List.getElem?_eq_some_iff.1 hc).2
      rw [this] at h2
      omega
    · exact h1
  · exact h1
theorem Ok.crash {s : Disk} (h : Ok s) (keep part : Int) : Ok (crash s keep part) := by
  unfold Dk.crash
  split
  · exact h
  · exact ⟨h.room, rfl, fun k => by simp; exact fallen_size s h keep part, by simpa using h.calls, h.calls, by simp⟩
theorem Ok.evStep {st : Disk × Bool × Bool} (h : Ok st.1) (e : Ev) : Ok (evStep st e).1 := by
  unfold Dk.evStep
  split
  · exact h
  · split
    · exact h.crash _ _
    · split
      · exact h
      · split <;> exact h
theorem Ok.more {s : Disk} (h : Ok s) : Ok { s with calls := s.calls + 1 } := ⟨h.room, h.now, h.size, by have := h.pend; simp only; omega, by have := h.calls; simp only; omega, h.nil⟩
theorem Ok.events {s : Disk} (h : Ok s) : Ok (events s).1 := by
  unfold Dk.events
  have : ∀ (l : List Ev) (st : Disk × Bool × Bool), Ok st.1 → Ok (l.foldl Dk.evStep st).1 := by
    intro l
    induction l with
    | nil => intro st h; exact h
    | cons e l ih => intro st h; exact ih _ (h.evStep e)
  exact this _ _ h.more
theorem crash_calls (s : Disk) (k t : Int) : (crash s k t).calls = s.calls := by unfold crash; split <;> rfl
theorem crash_plan (s : Disk) (k t : Int) : (crash s k t).plan = s.plan := by unfold crash; split <;> rfl
theorem crash_room (s : Disk) (k t : Int) : (crash s k t).room = s.room := by unfold crash; split <;> rfl
theorem evStep_calls (st : Disk × Bool × Bool) (e : Ev) : (evStep st e).1.calls = st.1.calls ∧ (evStep st e).1.plan = st.1.plan ∧ (evStep st e).1.room = st.1.room := by
  unfold evStep
  split
  · exact ⟨rfl, rfl, rfl⟩
  · split
    · exact ⟨crash_calls _ _ _, crash_plan _ _ _, crash_room _ _ _⟩
    · split
      · exact ⟨rfl, rfl, rfl⟩
      · split <;> exact ⟨rfl, rfl, rfl⟩
theorem events_calls (s : Disk) : (events s).1.calls = s.calls + 1 ∧ (events s).1.plan = s.plan ∧ (events s).1.room = s.room := by
  unfold events
  have : ∀ (l : List Ev) (st : Disk × Bool × Bool), (l.foldl evStep st).1.calls = st.1.calls ∧ (l.foldl evStep st).1.plan = st.1.plan ∧ (l.foldl evStep st).1.room = st.1.room := by
    intro l
    induction l with
    | nil => intro st; exact ⟨rfl, rfl, rfl⟩
    | cons e l ih =>
      intro st
      obtain ⟨h1, h2, h3⟩ := ih (evStep st e)
      obtain ⟨g1, g2, g3⟩ := evStep_calls st e
      exact ⟨h1.trans g1, h2.trans g2, h3.trans g3⟩
  exact this _ _
theorem Ok.does {s : Disk} (h : Ok s) (c : Ch) (hc : (s.pend.length : Int) < s.calls) (hu : used (make s.now c) ≤ Len) (hn : ¬ (c.puts = true ∨ c.behind = true) → c.data = []) : Ok (does s c) := by
  refine ⟨h.room, ?_, fun k => ?_, by simp [Dk.does]; omega, h.calls, fun x hx => by
    simp only [Dk.does, List.mem_append, List.mem_singleton] at hx
    rcases hx with hx | rfl
    · exact h.nil x hx
    · exact hn⟩
  · simp [Dk.does, h.now, List.foldl_append]
  · simp only [Dk.does]
    rcases Nat.lt_or_ge s.pend.length k with hk | hk
    · rw [List.take_of_length_le (by simp; omega), List.foldl_append, ← h.now]
      exact hu
    · rw [List.take_append_of_le_length hk]
      exact h.size k
theorem Ok.used {s : Disk} (h : Ok s) : used s.now ≤ Len := by
  have := h.size s.pend.length
  rwa [List.take_length, ← h.now] at this
theorem crash_pend (s : Disk) (k t : Int) : (crash s k t).pend.length ≤ s.pend.length := by unfold crash; split <;> simp
theorem evStep_pend (st : Disk × Bool × Bool) (e : Ev) : (evStep st e).1.pend.length ≤ st.1.pend.length := by
  unfold evStep
  split
  · exact Nat.le_refl _
  · split
    · exact crash_pend _ _ _
    · split
      · exact Nat.le_refl _
      · split <;> exact Nat.le_refl _
theorem events_pend (s : Disk) (h : Ok s) : ((events s).1.pend.length : Int) ≤ s.calls := by
  have : ∀ (l : List Ev) (st : Disk × Bool × Bool), (l.foldl evStep st).1.pend.length ≤ st.1.pend.length := by
    intro l
    induction l with
    | nil => intro st; exact Nat.le_refl _
    | cons e l ih => intro st; exact Nat.le_trans (ih (evStep st e)) (evStep_pend st e)
  have h1 := this s.plan ({ s with calls := s.calls + 1 }, false, false)
  have h2 := h.pend
  unfold events
  simp only at h1
  omega
end Dk
