/- A value semantics of the loaded code, its soundness, and walks through functions over it. -/
import Derived.Test.YtbfcbjmoijiffaaGreatDkSpec
import Derived.Test.YtbfcbjmoijiffaaGreatDkAllax0
set_option linter.unusedVariables false
set_option linter.unusedSimpArgs false
/-! The document's disk, in plain Lean, beside the program's. -/
namespace Dr
open Dk (Files Bs Ch Ev Disk make del data used Len)
def Nod (f : Files) : Prop := (f.map (·.1)).Nodup
def Srt (f : Files) : Prop := f.Pairwise (fun p q => p.1 < q.1)
def without (f : Files) (n : Bs) : Files := f.filter fun p => decide (p.1 ≠ n)
def ins (f : Files) (n b : Bs) : Files := f.takeWhile (fun p => decide (p.1 < n)) ++ (n, b) :: f.dropWhile (fun p => decide (p.1 < n))
def with_ (f : Files) (n b : Bs) : Files := ins (without f n) n b
def kind (c : Ch) : Int := if c.behind = true then 2 else if c.puts = true then 1 else if c.frm ≠ [] then 3 else 4
def apply (f : Files) (c : Ch) : Files :=
  if c.behind = true then with_ f c.name (data f c.name ++ c.data)
  else if c.puts = true then with_ f c.name c.data
  else if c.frm ≠ [] then with_ (without f c.frm) c.name (data f c.frm)
  else without f c.name

structure Rel (g f : Files) : Prop where
  perm : g.Perm f
  srt : Srt g
  nod : Nod f

theorem nod_perm {f g : Files} (h : f.Perm g) (hn : Nod f) : Nod g := (List.Perm.nodup_iff (h.map (fun p : Bs × Bs => p.1))).1 hn
theorem Rel.nodg {g f : Files} (h : Rel g f) : Nod g := nod_perm h.perm.symm h.nod
theorem nod_cons {p : Bs × Bs} {f : Files} : Nod (p :: f) ↔ (∀ q ∈ f, q.1 ≠ p.1) ∧ Nod f := by
  unfold Nod
  rw [List.map_cons, List.nodup_cons]
  refine and_congr_left fun _ => ⟨fun h q hq e => h (by rw [← e]; exact List.mem_map_of_mem hq), fun h hm => ?_⟩
  obtain ⟨q, hq, e⟩ := List.mem_map.1 hm
  exact h q hq e
theorem nod_filter {f : Files} {P : Bs × Bs → Bool} (h : Nod f) : Nod (f.filter P) := (List.filter_sublist.map _).nodup h
theorem without_none {f : Files} {n : Bs} (h : ∀ q ∈ f, q.1 ≠ n) : without f n = f := List.filter_eq_self.2 fun q hq => by simpa using h q hq
theorem mem_without {f : Files} {n : Bs} {p : Bs × Bs} : p ∈ without f n ↔ p ∈ f ∧ p.1 ≠ n := by simp [without]
theorem del_eq {f : Files} {n : Bs} (h : Nod f) : del f n = without f n := by
  induction f with
  | nil => rfl
  | cons p f ih =>
    obtain ⟨k, v⟩ := p
    obtain ⟨h1, h2⟩ := nod_cons.1 h
    unfold del
    by_cases hk : n = k
    · subst hk
      rw [if_pos rfl]
      have : without ((n, v) :: f) n = without f n := by unfold without; rw [List.filter_cons_of_neg (by simp)]
      rw [this, without_none h1]
    · rw [if_neg hk, ih h2]
      unfold without
      rw [List.filter_cons_of_pos (by simpa using fun e => hk e.symm)]
theorem set_perm {f : Files} {n b : Bs} (h : Nod f) : (Dk.set f n b).Perm ((n, b) :: without f n) := by
  induction f with
  | nil => exact List.Perm.refl _
  | cons p f ih =>
    obtain ⟨k, v⟩ := p
    obtain ⟨h1, h2⟩ := nod_cons.1 h
    unfold Dk.set
    by_cases hk : n = k
    · subst hk
      rw [if_pos rfl]
      have : without ((n, v) :: f) n = without f n := by unfold without; rw [List.filter_cons_of_neg (by simp)]
      rw [this, without_none h1]
    · rw [if_neg hk]
      have : without ((k, v) :: f) n = (k, v) :: without f n := by unfold without; rw [List.filter_cons_of_pos (by simpa using fun e => hk e.symm)]
      rw [this]
      exact ((ih h2).cons _).trans (List.Perm.swap _ _ _)
theorem ins_perm {f : Files} {n b : Bs} : (ins f n b).Perm ((n, b) :: f) := by
  unfold ins
  refine List.perm_middle.trans ?_
  rw [List.takeWhile_append_dropWhile]
theorem lt_of_ne {a b : Bs} (h : ¬ a < b) (hn : a ≠ b) : b < a := by
  rw [List.not_lt] at h
  rcases Classical.em (b < a) with h1 | h1
  · exact h1
  · rw [List.not_lt] at h1
    exact absurd (List.le_antisymm h1 h) hn
theorem srt_ins {n b : Bs} : ∀ {f : Files}, Srt f → (∀ p ∈ f, p.1 ≠ n) → Srt (ins f n b) := by
  intro f
  induction f with
  | nil => intro _ _; simp [ins, Srt]
  | cons p f ih =>
    intro hs hn
    unfold Srt at hs
    rw [List.pairwise_cons] at hs
    have hpn := hn p (by simp)
    unfold ins
    by_cases hp : p.1 < n
    · rw [List.takeWhile_cons_of_pos (by simpa using hp), List.dropWhile_cons_of_pos (by simpa using hp), List.cons_append]
      have h1 := ih hs.2 (fun q hq => hn q (List.mem_cons_of_mem _ hq))
      refine List.pairwise_cons.2 ⟨fun q hq => ?_, h1⟩
      rcases List.mem_cons.1 ((ins_perm (f := f) (n := n) (b := b)).mem_iff.1 hq) with rfl | hq
      · exact hp
      · exact hs.1 q hq
    · rw [List.takeWhile_cons_of_neg (by simpa using hp), List.dropWhile_cons_of_neg (by simpa using hp), List.nil_append]
      have h1 := lt_of_ne hp hpn
      refine List.pairwise_cons.2 ⟨fun q hq => ?_, List.pairwise_cons.2 hs⟩
      rcases List.mem_cons.1 hq with rfl | hq
      · exact h1
      · exact List.lt_trans h1 (hs.1 q hq)
theorem srt_without {f : Files} {n : Bs} (h : Srt f) : Srt (without f n) := List.Pairwise.filter _ h
theorem get_mem {f : Files} {n v : Bs} (h : Nod f) : Dk.get f n = some v ↔ (n, v) ∈ f := by
  induction f with
  | nil => simp [Dk.get]
  | cons p f ih =>
    obtain ⟨k, u⟩ := p
    obtain ⟨h1, h2⟩ := nod_cons.1 h
    unfold Dk.get
    by_cases hk : n = k
    · subst hk
      rw [if_pos rfl]
      constructor
      · intro e; injection e with e; subst e; simp
      · intro hm
        rcases List.mem_cons.1 hm with e | hm
        · injection e with _ e; rw [e]
        · exact absurd rfl (h1 (n, v) hm)
    · rw [if_neg hk, ih h2]
      constructor
      · exact List.mem_cons_of_mem _
      · intro hm
        rcases List.mem_cons.1 hm with e | hm
        · injection e with e _; exact absurd e hk
        · exact hm
theorem get_perm {f g : Files} (hp : f.Perm g) (h : Nod f) (n : Bs) : Dk.get f n = Dk.get g n := by
  have hg := nod_perm hp h
  cases hf : Dk.get f n with
  | some v => exact ((get_mem hg).2 (hp.mem_iff.1 ((get_mem h).1 hf))).symm
  | none =>
    cases hh : Dk.get g n with
    | none => rfl
    | some v => rw [(get_mem h).2 (hp.mem_iff.2 ((get_mem hg).1 hh))] at hf; cases hf
theorem Rel.get {g f : Files} (h : Rel g f) (n : Bs) : Dk.get g n = Dk.get f n := get_perm h.perm h.nodg n
theorem Rel.data {g f : Files} (h : Rel g f) (n : Bs) : Dk.data g n = Dk.data f n := by unfold Dk.data; rw [h.get]
theorem Rel.has {g f : Files} (h : Rel g f) (n : Bs) : Dk.has g n = Dk.has f n := by unfold Dk.has; rw [h.get]
theorem Rel.used {g f : Files} (h : Rel g f) : Dk.used g = Dk.used f := by
  unfold Dk.used
  exact (h.perm.map _).sum_nat
theorem Rel.len {g f : Files} (h : Rel g f) : g.length = f.length := h.perm.length_eq
theorem Rel.without {g f : Files} (h : Rel g f) (n : Bs) : Rel (without g n) (del f n) := by
  rw [del_eq h.nod]
  exact ⟨h.perm.filter _, srt_without h.srt, nod_filter h.nod⟩
theorem Rel.with {g f : Files} (h : Rel g f) (n b : Bs) : Rel (with_ g n b) (Dk.set f n b) := by
  have h1 : (with_ g n b).Perm ((n, b) :: Dr.without f n) := ins_perm.trans ((h.perm.filter _).cons _)
  have h2 : Nod ((n, b) :: Dr.without f n) := nod_cons.2 ⟨fun q hq => (mem_without.1 hq).2, nod_filter h.nod⟩
  exact ⟨h1.trans (set_perm h.nod).symm, srt_ins (srt_without h.srt) (fun q hq => (mem_without.1 hq).2), nod_perm (set_perm h.nod).symm h2⟩
theorem Rel.apply {g f : Files} (h : Rel g f) (c : Ch) : Rel (apply g c) (make f c) := by
  unfold Dr.apply make
  split
  · rw [h.data]; exact h.with _ _
  · split
    · exact h.with _ _
    · split
      · rw [h.data]; exact (h.without _).with _ _
      · exact h.without _
theorem Rel.fold (l : List Ch) : ∀ {g f : Files}, Rel g f → Rel (l.foldl Dr.apply g) (l.foldl make f) := by
  induction l with
  | nil => intro g f h; exact h
  | cons c l ih => intro g f h; exact ih (h.apply c)

/-! ### The disk -/
def fallen (s : Disk) (keep part : Int) : Files :=
  let d := (s.pend.take (Dk.kept s keep)).foldl apply s.dur
  match s.pend[Dk.kept s keep]? with
  | some c => match Dk.torn c part with
    | some c => apply d c
    | none => d
  | none => d
def crash (s : Disk) (keep part : Int) : Disk := if s.down = true then s else { s with now := fallen s keep part, dur := fallen s keep part, pend := [], down := true }
def evStep (st : Disk × Bool × Bool) (e : Ev) : Disk × Bool × Bool :=
  if e.at_ ≠ st.1.calls then st
  else if e.kind = 1 then (crash st.1 e.keep e.torn, st.2.1, st.2.2)
  else if e.kind = 2 then (st.1, true, st.2.2)
  else if e.kind = 3 then (st.1, st.2.1, true)
  else st
def events (s : Disk) : Disk × Bool × Bool := s.plan.foldl evStep ({ s with calls := s.calls + 1 }, false, false)
def begin (s : Disk) (n : Bs) (named : Bool) : Disk × Bool × Int :=
  let r := events s
  (r.1, r.2.1, if r.1.down = true then 9 else if r.2.2 = true then 8 else if named = true ∧ Dk.nameOk n = false then 4 else 0)
def change (s : Disk) (c : Ch) : Disk := { s with now := apply s.now c, pend := s.pend ++ [c] }
def write (s : Disk) (n b : Bs) : Disk × Int :=
  let r := begin s n true
  if r.2.2 ≠ 0 then (r.1, r.2.2) else if r.2.1 = true ∨ r.1.room < (used r.1.now : Int) + b.length - (data r.1.now n).length then (r.1, 7) else (change r.1 ⟨n, [], b, true, false⟩, 0)
def append (s : Disk) (n b : Bs) : Disk × Int :=
  let r := begin s n true
  if r.2.2 ≠ 0 then (r.1, r.2.2) else if r.2.1 = true ∨ r.1.room < (used r.1.now : Int) + b.length then (r.1, 7) else (change r.1 ⟨n, [], b, false, true⟩, 0)
def rename (s : Disk) (a b : Bs) : Disk × Int :=
  let r := begin s a true
  if r.2.2 ≠ 0 then (r.1, r.2.2) else if Dk.nameOk b = false then (r.1, 4) else if Dk.has r.1.now a = false then (r.1, 6) else if a = b then (r.1, 0) else (change r.1 ⟨b, a, [], false, false⟩, 0)
def delete (s : Disk) (n : Bs) : Disk × Int :=
  let r := begin s n true
  if r.2.2 ≠ 0 then (r.1, r.2.2) else if Dk.has r.1.now n = false then (r.1, 6) else (change r.1 ⟨n, [], [], false, false⟩, 0)
def sync (s : Disk) : Disk × Int :=
  let r := begin s [] false
  if r.2.2 ≠ 0 then (r.1, r.2.2) else ({ r.1 with dur := r.1.now, pend := [] }, 0)
def read (s : Disk) (n : Bs) : Disk × Bs × Int :=
  let r := begin s n true
  if r.2.2 ≠ 0 then (r.1, [], r.2.2) else if Dk.has r.1.now n = false then (r.1, [], 6) else (r.1, data r.1.now n, 0)
def list (s : Disk) : Disk × List Bs × Int :=
  let r := begin s [] false
  if r.2.2 ≠ 0 then (r.1, [], r.2.2) else (r.1, r.1.now.map (·.1), 0)
def plan (s : Disk) (l : List Ev) : Disk := { s with plan := l.filter fun e => decide (s.calls < e.at_) }

/-! ### Both -/
structure Two (m : Int) (s r : Disk) : Prop where
  ok : Dk.Ok s
  cnt : ∀ k, (((s.pend.take k).foldl make s.dur).length : Int) ≤ m
  dur : Rel r.dur s.dur
  now : r.now = r.pend.foldl apply r.dur
  pend : r.pend = s.pend
  room : r.room = s.room
  calls : r.calls = s.calls
  down : r.down = s.down
def PR (s r : Disk) : Prop := ∀ c, s.calls < c → r.plan.filter (fun e => decide (e.at_ = c)) = s.plan.filter (fun e => decide (e.at_ = c))

theorem Two.nowR {m : Int} {s r : Disk} (h : Two m s r) : Rel r.now s.now := by
  rw [h.now, h.ok.now, h.pend]
  exact h.dur.fold _
theorem Two.lenNow {m : Int} {s r : Disk} (h : Two m s r) : (s.now.length : Int) ≤ m := by
  have := h.cnt s.pend.length
  rwa [List.take_length, ← h.ok.now] at this
theorem Two.le {m m' : Int} {s r : Disk} (h : Two m s r) (hm : m ≤ m') : Two m' s r := ⟨h.ok, fun k => Int.le_trans (h.cnt k) hm, h.dur, h.now, h.pend, h.room, h.calls, h.down⟩
theorem Two.more {m : Int} {s r : Disk} (h : Two m s r) : Two m { s with calls := s.calls + 1 } { r with calls := r.calls + 1 } :=
  ⟨h.ok.more, h.cnt, h.dur, h.now, h.pend, h.room, by simp only [h.calls], h.down⟩

theorem set_len (f : Files) (n b b' : Bs) : (Dk.set f n b).length = (Dk.set f n b').length := by
  induction f with
  | nil => rfl
  | cons p f ih =>
    obtain ⟨k, v⟩ := p
    unfold Dk.set
    split
    · rfl
    · simp [ih]
theorem set_le (f : Files) (n b : Bs) : (Dk.set f n b).length ≤ f.length + 1 := by
  induction f with
  | nil => simp [Dk.set]
  | cons p f ih =>
    obtain ⟨k, v⟩ := p
    unfold Dk.set
    split
    · simp
    · simp; omega
theorem del_le (f : Files) (n : Bs) : (del f n).length ≤ f.length := by
  induction f with
  | nil => simp [del]
  | cons p f ih =>
    obtain ⟨k, v⟩ := p
    unfold del
    split
    · simp
    · simp; omega
theorem make_le (f : Files) (c : Ch) : (make f c).length ≤ f.length + 1 := by
  unfold make
  split
  · exact set_le _ _ _
  · split
    · exact set_le _ _ _
    · split
      · have h1 := set_le (del f c.frm) c.name (data f c.frm)
        have h2 := del_le f c.frm
        omega
      · have := del_le f c.name
        omega
theorem torn_len (f : Files) {c c' : Ch} {n : Int} (h : Dk.torn c n = some c') : (make f c').length = (make f c).length := by
  unfold Dk.torn at h
  split at h
  · cases h
  · rename_i h0
    injection h with h; subst h
    unfold make
    simp only
    split
    · exact set_len _ _ _ _
    · split
      · exact set_len _ _ _ _
      · rfl
theorem Two.fallen {m : Int} {s r : Disk} (h : Two m s r) (keep part : Int) : Rel (fallen r keep part) (Dk.fallen s keep part) ∧ ((Dk.fallen s keep part).length : Int) ≤ m := by
  have hk : Dk.kept r keep = Dk.kept s keep := by unfold Dk.kept; rw [h.pend]
  unfold Dr.fallen Dk.fallen
  simp only
  rw [hk, h.pend]
  have h1 := h.dur.fold (s.pend.take (Dk.kept s keep))
  cases hc : s.pend[Dk.kept s keep]? with
  | none => exact ⟨h1, h.cnt _⟩
  | some c =>
    simp only
    cases ht : Dk.torn c part with
    | none => exact ⟨h1, h.cnt _⟩
    | some c' =>
      refine ⟨h1.apply c', ?_⟩
      have h2 := h.cnt (Dk.kept s keep + 1)
      obtain ⟨hl, he⟩ := List.getElem?_eq_some_iff.1 hc
      rw [Dk.fold_snoc s _ hl, he] at h2
      simp only
      rw [torn_len _ ht]
      exact h2
theorem Two.crash {m : Int} {s r : Disk} (h : Two m s r) (keep part : Int) : Two m (Dk.crash s keep part) (crash r keep part) := by
  have ho := h.ok.crash keep part
  obtain ⟨h1, h2⟩ := h.fallen keep part
  unfold Dr.crash Dk.crash at *
  rw [h.down]
  split
  · exact h
  · rename_i hd
    rw [if_neg hd] at ho
    exact ⟨ho, fun k => by simpa using h2, h1, rfl, rfl, h.room, h.calls, rfl⟩
theorem crash_calls (s : Disk) (k t : Int) : (crash s k t).calls = s.calls ∧ (crash s k t).plan = s.plan := by unfold crash; split <;> exact ⟨rfl, rfl⟩
theorem evStep_calls (st : Disk × Bool × Bool) (e : Ev) : (evStep st e).1.calls = st.1.calls ∧ (evStep st e).1.plan = st.1.plan := by
  unfold evStep
  split
  · exact ⟨rfl, rfl⟩
  · split
    · exact crash_calls _ _ _
    · split
      · exact ⟨rfl, rfl⟩
      · split <;> exact ⟨rfl, rfl⟩
structure Both (m : Int) (a b : Disk × Bool × Bool) : Prop where
  two : Two m a.1 b.1
  snd : b.2 = a.2
theorem Both.step {m : Int} {a b : Disk × Bool × Bool} (h : Both m a b) (e : Ev) : Both m (Dk.evStep a e) (evStep b e) := by
  have h2 := h.snd
  unfold Dk.evStep Dr.evStep
  rw [h.two.calls, h2]
  split
  · exact h
  · split
    · exact ⟨h.two.crash _ _, rfl⟩
    · split
      · exact ⟨h.two, rfl⟩
      · split
        · exact ⟨h.two, rfl⟩
        · exact h
theorem Both.fold {m : Int} (l : List Ev) : ∀ {a b : Disk × Bool × Bool}, Both m a b → Both m (l.foldl Dk.evStep a) (l.foldl evStep b) := by
  induction l with
  | nil => intro a b h; exact h
  | cons e l ih => intro a b h; exact ih (h.step e)
theorem fold_at (c : Int) (l : List Ev) : ∀ (a : Disk × Bool × Bool), a.1.calls = c → l.foldl evStep a = (l.filter fun e => decide (e.at_ = c)).foldl evStep a := by
  induction l with
  | nil => intro a _; rfl
  | cons e l ih =>
    intro a ha
    have h1 := (evStep_calls a e).1
    rw [List.foldl_cons, ih _ (h1.trans ha)]
    by_cases he : e.at_ = c
    · rw [List.filter_cons_of_pos (by simpa using he), List.foldl_cons]
    · rw [List.filter_cons_of_neg (by simpa using he)]
      congr 1
      unfold evStep
      rw [if_pos (by rw [ha]; exact he)]
theorem fold_atD (c : Int) (l : List Ev) : ∀ (a : Disk × Bool × Bool), a.1.calls = c → l.foldl Dk.evStep a = (l.filter fun e => decide (e.at_ = c)).foldl Dk.evStep a := by
  induction l with
  | nil => intro a _; rfl
  | cons e l ih =>
    intro a ha
    have h1 := (Dk.evStep_calls a e).1
    rw [List.foldl_cons, ih _ (h1.trans ha)]
    by_cases he : e.at_ = c
    · rw [List.filter_cons_of_pos (by simpa using he), List.foldl_cons]
    · rw [List.filter_cons_of_neg (by simpa using he)]
      congr 1
      unfold Dk.evStep
      rw [if_pos (by rw [ha]; exact he)]
theorem events_calls (s : Disk) : (events s).1.calls = s.calls + 1 ∧ (events s).1.plan = s.plan := by
  unfold events
  have : ∀ (l : List Ev) (st : Disk × Bool × Bool), (l.foldl evStep st).1.calls = st.1.calls ∧ (l.foldl evStep st).1.plan = st.1.plan := by
    intro l
    induction l with
    | nil => intro st; exact ⟨rfl, rfl⟩
    | cons e l ih =>
      intro st
      obtain ⟨h1, h2⟩ := ih (evStep st e)
      obtain ⟨g1, g2⟩ := evStep_calls st e
      exact ⟨h1.trans g1, h2.trans g2⟩
  exact this _ _
/-- Both disks at the beginning of a call. -/
theorem Two.events {m : Int} {s r : Disk} (h : Two m s r) (hp : PR s r) : Both m (Dk.events s) (events r) ∧ PR (Dk.events s).1 (events r).1 := by
  have h1 : Both m (Dk.events s) (Dr.events r) := by
    unfold Dk.events Dr.events
    rw [fold_at (s.calls + 1) r.plan _ (by simp only [h.calls]), fold_atD (s.calls + 1) s.plan _ rfl, hp _ (by omega)]
    exact Both.fold _ ⟨h.more, rfl⟩
  refine ⟨h1, fun c hc => ?_⟩
  rw [(Dk.events_calls s).1] at hc
  rw [(Dk.events_calls s).2.1, (events_calls r).2]
  exact hp c (by omega)
theorem Two.change {m : Int} {s r : Disk} (h : Two m s r) (c : Ch) (hc : (s.pend.length : Int) < s.calls) (hu : Dk.used (make s.now c) ≤ Len) (hn : ¬ (c.puts = true ∨ c.behind = true) → c.data = []) : Two (m + 1) (Dk.does s c) (change r c) := by
  refine ⟨h.ok.does c hc hu hn, fun k => ?_, h.dur, ?_, ?_, h.room, h.calls, h.down⟩
  · show (((((s.pend ++ [c]).take k).foldl make s.dur).length : Nat) : Int) ≤ m + 1
    rcases Nat.lt_or_ge s.pend.length k with hk | hk
    · rw [List.take_of_length_le (by simp; omega), List.foldl_append, ← h.ok.now]
      have h1 := make_le s.now c
      have h2 := h.lenNow
      show ((make s.now c).length : Int) ≤ m + 1
      omega
    · rw [List.take_append_of_le_length hk]
      have := h.cnt k
      omega
  · show Dr.apply r.now c = (r.pend ++ [c]).foldl Dr.apply r.dur
    rw [List.foldl_append, ← h.now]; rfl
  · show r.pend ++ [c] = s.pend ++ [c]
    rw [h.pend]

/-- Both between calls. -/
structure Live (s r : Disk) : Prop where
  two : Two s.calls s r
  pr : PR s r
/-- Behind a call. -/
structure Next (s s' r r' : Disk) : Prop where
  live : Live s' r'
  calls : s'.calls = s.calls + 1
  plan : s'.plan = s.plan
theorem Live.begun {s r : Disk} (h : Live s r) : Two s.calls (Dk.events s).1 (events r).1 ∧ (events r).2 = (Dk.events s).2 ∧ Next s (Dk.events s).1 r (events r).1 := by
  obtain ⟨h1, h2⟩ := h.two.events h.pr
  have hc := Dk.events_calls s
  refine ⟨h1.two, h1.snd, ⟨?_, h2⟩, hc.1, hc.2.1⟩
  rw [hc.1]
  exact h1.two.le (by omega)
theorem Live.does {s r : Disk} (h : Live s r) (c : Ch) (hu : Dk.used (make (Dk.events s).1.now c) ≤ Len) (hn : ¬ (c.puts = true ∨ c.behind = true) → c.data = []) : Next s (Dk.does (Dk.events s).1 c) r (change (events r).1 c) := by
  obtain ⟨h1, h2, h3⟩ := h.begun
  have hc := Dk.events_calls s
  have hp := Dk.events_pend s h.two.ok
  refine ⟨⟨?_, h3.live.pr⟩, hc.1, hc.2.1⟩
  have := h1.change c (by rw [hc.1]; omega) hu hn
  show Two (Dk.events s).1.calls _ _
  rw [hc.1]
  exact this

theorem used_write (f : Files) (n b : Bs) (c : Ch) (h1 : c.behind = false) (h2 : c.puts = true) : (Dk.used (make f c) : Int) = Dk.used f + c.data.length - (data f c.name).length := by
  unfold make
  rw [if_neg (by rw [h1]; simp), if_pos h2]
  have := Dk.used_set f c.name c.data
  omega
theorem used_append (f : Files) (c : Ch) (h1 : c.behind = true) : Dk.used (make f c) = Dk.used f + c.data.length := by
  unfold make
  rw [if_pos h1]
  have := Dk.used_set f c.name (data f c.name ++ c.data)
  rw [List.length_append] at this
  omega
theorem used_rest (f : Files) (c : Ch) (h1 : c.behind = false) (h2 : c.puts = false) : Dk.used (make f c) ≤ Dk.used f := by
  unfold make
  rw [if_neg (by rw [h1]; simp), if_neg (by rw [h2]; simp)]
  split
  · have h3 := Dk.used_set (del f c.frm) c.name (data f c.frm)
    have h4 := Dk.used_del f c.frm
    omega
  · have := Dk.used_del f c.name
    omega
theorem Live.begin {s r : Disk} (h : Live s r) (n : Bs) : Dr.begin r n true = ((events r).1, (Dk.call s [n]).2) := by
  obtain ⟨h1, h2, h3⟩ := h.begun
  unfold Dr.begin Dk.call
  simp only [h2, h1.down, List.all_cons, List.all_nil, Bool.and_true, true_and]
theorem Live.begin0 {s r : Disk} (h : Live s r) : Dr.begin r [] false = ((events r).1, (Dk.call s []).2) := by
  obtain ⟨h1, h2, h3⟩ := h.begun
  unfold Dr.begin Dk.call
  simp only [h2, h1.down, List.all_nil, Bool.true_eq_false, if_false, Bool.false_eq_true, false_and]
theorem Live.write {s r : Disk} (h : Live s r) (n b : Bs) : Next s (Dk.write s n b).1 r (write r n b).1 ∧ (write r n b).2 = (Dk.write s n b).2 := by
  obtain ⟨h1, h2, h3⟩ := h.begun
  have hu := h1.ok.room
  have hus := h1.nowR.used
  have hda := h1.nowR.data n
  have hd := fun hx => h.does ⟨n, [], b, true, false⟩ hx (by simp)
  have hc1 : (Dk.call s [n]).1 = (Dk.events s).1 := rfl
  unfold Dk.write Dr.write
  simp only [h.begin n, hc1, hus, hda, h1.room]
  generalize (Dk.call s [n]).2 = q
  have hw := used_write (Dk.events s).1.now n b ⟨n, [], b, true, false⟩ rfl rfl
  simp only at hw
  by_cases hq : q.2 ≠ 0
  · rw [if_pos hq, if_pos hq]; exact ⟨h3, rfl⟩
  · rw [if_neg hq, if_neg hq]
    unfold Dk.lay
    by_cases hf : q.1 = true ∨ (Dk.events s).1.room < (Dk.used (Dk.events s).1.now : Int) + b.length - (data (Dk.events s).1.now n).length
    · rw [if_pos hf, if_pos (by rcases hf with hf | hf; · exact .inl hf
                                · right; omega)]
      exact ⟨h3, rfl⟩
    · rw [if_neg hf, if_neg (by rintro (h | h); · exact hf (.inl h)
                                · exact hf (.inr (by omega)))]
      refine ⟨hd ?_, rfl⟩
      have : ¬ ((Dk.events s).1.room < (Dk.used (Dk.events s).1.now : Int) + b.length - (data (Dk.events s).1.now n).length) := fun h => hf (.inr h)
      omega
theorem Live.append {s r : Disk} (h : Live s r) (n b : Bs) : Next s (Dk.append s n b).1 r (append r n b).1 ∧ (append r n b).2 = (Dk.append s n b).2 := by
  obtain ⟨h1, h2, h3⟩ := h.begun
  have hu := h1.ok.room
  have hus := h1.nowR.used
  have hd := fun hx => h.does ⟨n, [], b, false, true⟩ hx (by simp)
  have hc1 : (Dk.call s [n]).1 = (Dk.events s).1 := rfl
  unfold Dk.append Dr.append
  simp only [h.begin n, hc1, hus, h1.room]
  generalize (Dk.call s [n]).2 = q
  have hw := used_append (Dk.events s).1.now ⟨n, [], b, false, true⟩ rfl
  simp only at hw
  by_cases hq : q.2 ≠ 0
  · rw [if_pos hq, if_pos hq]; exact ⟨h3, rfl⟩
  · rw [if_neg hq, if_neg hq]
    unfold Dk.lay
    by_cases hf : q.1 = true ∨ (Dk.events s).1.room < (Dk.used (Dk.events s).1.now : Int) + b.length
    · rw [if_pos hf, if_pos (by rcases hf with hf | hf; · exact .inl hf
                                · right; omega)]
      exact ⟨h3, rfl⟩
    · rw [if_neg hf, if_neg (by rintro (h | h); · exact hf (.inl h)
                                · exact hf (.inr (by omega)))]
      refine ⟨hd ?_, rfl⟩
      have : ¬ ((Dk.events s).1.room < (Dk.used (Dk.events s).1.now : Int) + b.length) := fun h => hf (.inr h)
      omega
theorem Live.delete {s r : Disk} (h : Live s r) (n : Bs) : Next s (Dk.delete s n).1 r (delete r n).1 ∧ (delete r n).2 = (Dk.delete s n).2 := by
  obtain ⟨h1, h2, h3⟩ := h.begun
  have hu := h1.ok.used
  have hha := h1.nowR.has n
  have hd := h.does ⟨n, [], [], false, false⟩ (Nat.le_trans (used_rest _ _ rfl rfl) hu) (by simp)
  have hc1 : (Dk.call s [n]).1 = (Dk.events s).1 := rfl
  unfold Dk.delete Dr.delete
  simp only [h.begin n, hc1, hha]
  generalize (Dk.call s [n]).2 = q
  split
  · exact ⟨h3, rfl⟩
  · split
    · exact ⟨h3, rfl⟩
    · exact ⟨hd, rfl⟩
theorem Live.rename {s r : Disk} (h : Live s r) (a b : Bs) : Next s (Dk.rename s a b).1 r (rename r a b).1 ∧ (rename r a b).2 = (Dk.rename s a b).2 := by
  obtain ⟨h1, h2, h3⟩ := h.begun
  have hu := h1.ok.used
  have hha := h1.nowR.has a
  have hd := h.does ⟨b, a, [], false, false⟩ (Nat.le_trans (used_rest _ _ rfl rfl) hu) (by simp)
  have hc1 : (Dk.call s [a, b]).1 = (Dk.events s).1 := rfl
  unfold Dk.rename Dr.rename
  simp only [h.begin a, hc1, hha]
  have e1 : (Dk.call s [a]).2.2 = if (Dk.events s).1.down = true then 9 else if (Dk.events s).2.2 = true then 8 else if Dk.nameOk a = false then 4 else 0 := by simp [Dk.call]
  have e2 : (Dk.call s [a, b]).2.2 = if (Dk.events s).1.down = true then 9 else if (Dk.events s).2.2 = true then 8 else if (Dk.nameOk a && Dk.nameOk b) = false then 4 else 0 := by simp [Dk.call]
  by_cases c1 : (Dk.events s).1.down = true
  · rw [e1, e2]; simp only [if_pos c1]; exact ⟨h3, rfl⟩
  by_cases c2 : (Dk.events s).2.2 = true
  · rw [e1, e2]; simp only [if_neg c1, if_pos c2]; exact ⟨h3, rfl⟩
  rw [e1, e2]
  simp only [if_neg c1, if_neg c2]
  cases ha : Dk.nameOk a with
  | false => exact ⟨h3, rfl⟩
  | true =>
    cases hb : Dk.nameOk b with
    | false => exact ⟨h3, rfl⟩
    | true =>
      simp only [Bool.and_self, Bool.true_eq_false, if_false, ne_eq, not_true_eq_false]
      cases hc : Dk.has (Dk.events s).1.now a with
      | false => exact ⟨h3, rfl⟩
      | true =>
        simp only [Bool.true_eq_false, if_false]
        split
        · exact ⟨h3, rfl⟩
        · exact ⟨hd, rfl⟩
theorem Two.synced {m : Int} {s r : Disk} (h : Two m s r) : Two m { s with dur := s.now, pend := [] } { r with dur := r.now, pend := [] } :=
  ⟨⟨h.ok.room, rfl, fun k => by simpa using h.ok.used, by simpa using h.ok.calls, h.ok.calls, by simp⟩, fun k => by simpa using h.lenNow, h.nowR, rfl, rfl, h.room, h.calls, h.down⟩
theorem Live.sync {s r : Disk} (h : Live s r) : Next s (Dk.sync s).1 r (sync r).1 ∧ (sync r).2 = (Dk.sync s).2 := by
  obtain ⟨h1, h2, h3⟩ := h.begun
  have hc1 : (Dk.call s []).1 = (Dk.events s).1 := rfl
  unfold Dk.sync Dr.sync
  simp only [h.begin0, hc1]
  split
  · exact ⟨h3, rfl⟩
  · exact ⟨⟨⟨h3.live.two.synced, h3.live.pr⟩, h3.calls, h3.plan⟩, rfl⟩
theorem Live.read {s r : Disk} (h : Live s r) (n : Bs) : Next s (Dk.read s n).1 r (read r n).1 ∧ (read r n).2 = (Dk.read s n).2 := by
  obtain ⟨h1, h2, h3⟩ := h.begun
  have hge := h1.nowR.get n
  have hc1 : (Dk.call s [n]).1 = (Dk.events s).1 := rfl
  unfold Dk.read Dr.read
  simp only [h.begin n, hc1, Dk.has, Dk.data, hge]
  split
  · exact ⟨h3, rfl⟩
  · cases Dk.get (Dk.events s).1.now n with
    | none => exact ⟨h3, rfl⟩
    | some b => exact ⟨h3, rfl⟩
theorem Live.crash {s r : Disk} (h : Live s r) (k t : Int) : Live (Dk.crash s k t) (crash r k t) ∧ (Dk.crash s k t).calls = s.calls ∧ (Dk.crash s k t).plan = s.plan := by
  refine ⟨⟨?_, fun c hc => ?_⟩, Dk.crash_calls _ _ _, Dk.crash_plan _ _ _⟩
  · rw [Dk.crash_calls]; exact h.two.crash k t
  · rw [Dk.crash_plan, (crash_calls r k t).2]
    rw [Dk.crash_calls] at hc
    exact h.pr c hc
theorem Live.reboot {s r : Disk} (h : Live s r) : Live { s with down := false } { r with down := false } :=
  ⟨⟨⟨h.two.ok.room, h.two.ok.now, h.two.ok.size, h.two.ok.pend, h.two.ok.calls, h.two.ok.nil⟩, h.two.cnt, h.two.dur, h.two.now, h.two.pend, h.two.room, h.two.calls, rfl⟩, h.pr⟩
theorem Live.resize {s r : Disk} (h : Live s r) (n : Int) (hn : 0 ≤ n ∧ n ≤ 1073741824) : Live { s with room := n } { r with room := n } :=
  ⟨⟨⟨by simpa [Len] using hn, h.two.ok.now, h.two.ok.size, h.two.ok.pend, h.two.ok.calls, h.two.ok.nil⟩, h.two.cnt, h.two.dur, h.two.now, h.two.pend, rfl, h.two.calls, h.two.down⟩, h.pr⟩
theorem Live.planned {s r : Disk} (h : Live s r) (l : List Ev) : Live { s with plan := l } (plan r l) := by
  refine ⟨⟨⟨h.two.ok.room, h.two.ok.now, h.two.ok.size, h.two.ok.pend, h.two.ok.calls, h.two.ok.nil⟩, h.two.cnt, h.two.dur, h.two.now, h.two.pend, h.two.room, h.two.calls, h.two.down⟩, fun c hc => ?_⟩
  have hc : s.calls < c := hc
  show (l.filter fun e => decide (r.calls < e.at_)).filter _ = l.filter _
  rw [h.two.calls, List.filter_filter]
  congr 1
  funext e
  by_cases he : e.at_ = c
  · simp [he, hc]
  · simp [he]
theorem Live.new (room : Int) (h : 0 ≤ room ∧ room ≤ 1073741824) : Live ⟨room, [], [], [], [], 0, false⟩ ⟨room, [], [], [], [], 0, false⟩ :=
  ⟨⟨⟨by simpa [Len] using h, rfl, fun k => by simp [Dk.used, Len], by simp, by simp, by simp⟩, fun k => by simp, ⟨List.Perm.refl _, List.Pairwise.nil, List.nodup_nil⟩, rfl, rfl, rfl, rfl, rfl⟩, fun c _ => rfl⟩
end Dr
/- Walks: the document's files. -/
set_option linter.unusedVariables false
set_option linter.unusedSimpArgs false
namespace Go.Proofs
open Go.Lv
namespace Jn
open Dk (Files Bs Ch Ev)
variable {H : Heap}

def fileA (p : Bs × Bs) : AV := .agg [AV.str p.1, AV.bytes p.2]
instance : CellsN fileA 2 := ⟨fun _ => rfl⟩
instance : OneOK fileA := ⟨fun _ => rfl⟩
theorem cells_fileA (p : Bs × Bs) : (fileA p).cells = [AV.str p.1, AV.bytes p.2] := rfl
theorem agg_fileA (p : Bs × Bs) : AV.agg [AV.str p.1, AV.bytes p.2] = fileA p := rfl
theorem agg_file (n b : Bs) : AV.agg [AV.str n, AV.sl (b.map byteA)] = fileA (n, b) := rfl
theorem cells_byt (s : Bs) : (AV.bytes s).cells = [AV.bytes s] := rfl
theorem cells_str (s : Bs) : (AV.str s).cells = [AV.str s] := rfl
theorem get_none {n : Bs} : ∀ {f : Files}, (∀ p ∈ f, p.1 ≠ n) → Dk.get f n = none := by
  intro f
  induction f with
  | nil => intro _; rfl
  | cons p f ih =>
    intro h
    obtain ⟨k, v⟩ := p
    unfold Dk.get
    rw [if_neg (fun e => h (k, v) (by simp) e.symm)]
    exact ih fun q hq => h q (List.mem_cons_of_mem _ hq)
theorem get_at {n : Bs} : ∀ {f : Files} {i : Nat} (hi : i < f.length), (∀ p ∈ f.take i, p.1 ≠ n) → f[i].1 = n → Dk.get f n = some f[i].2 := by
  intro f
  induction f with
  | nil => intro i hi; simp at hi
  | cons p f ih =>
    intro i hi h he
    obtain ⟨k, v⟩ := p
    unfold Dk.get
    cases i with
    | zero => rw [if_pos (by simpa using he.symm)]; rfl
    | succ i =>
      rw [if_neg (fun e => h (k, v) (by simp) e.symm)]
      exact ih (by simpa using hi) (fun q hq => h q (by simp [hq])) (by simpa using he)
theorem ix_at' {α : Type} [Inhabited α] {l : List α} {i : Nat} (hi : i < l.length) : ix l (i : Int) = l[i] := by simp [ix, List.getD_eq_getElem?_getD, List.getElem?_eq_getElem hi]
theorem find_w (l : Files) (n : Bs) (hl : l.length < 100000000) : WF Tryz.prog cfg 74 [.sl (l.map fileA), .str n] H (fun r H' => (∃ k : Int, r = .i k ∧ ((0 ≤ k ∧ ∃ h : k.toNat < l.length, Dk.get l n = some l[k.toNat].2) ∨ (k = -1 ∧ Dk.get l n = none))) ∧ H' = H) := by
  have hm : ∀ d, cfg.muF 74 d = (false) := fun _ => rfl
  have hz : ∀ d, cfg.fzF 74 d = (false) := fun _ => rfl
  have ht : ∀ d, cfg.tkF 74 d = (false) := fun _ => rfl
  have hr_ : ∀ g, cfg.raw g = (g == 68) := fun _ => rfl
  refine rF_fn rfl rfl Tryz.func74 rfl ?_
  repeat' first | simp (disch := first | omega | assumption | decide) only [go_sem, hm, hz, ht, hr_] | refine ifP_in (fun _ => ?_) fun _ => ?_
  refine rL_loop (σ := Nat) (fun i e K => K = H ∧ e 0 = .sl (l.map fileA) ∧ e 1 = .str n ∧ e 5 = .i i ∧ i ≤ l.length ∧ ∀ p ∈ l.take i, p.1 ≠ n) (fun i => l.length - i) 0 ?_ ?_
  · refine ⟨rfl, ?_, ?_, ?_, by omega, by simp⟩
    all_goals first | (simp (disch := first | assumption | omega) only [go_sem]; done) | (simp (disch := first | assumption | omega) only [go_sem]; rfl)
  · rintro i e K ⟨hK, g0, g1, g5, i1, i2⟩
    have hK := hK.symm
    subst hK
    by_cases hil : i < l.length
    · have hix := ix_at' hil
      repeat' first | simp (disch := first | omega | assumption | decide) only [go_sem, hm, hz, ht, hr_, g0, g1, g5, hix, cells_fileA, cells_str, wdl, bind_some_, map_some_, oneD_fold] | refine ifP_in (fun _ => ?_) fun _ => ?_
      · exact ⟨i, rfl, .inl ⟨by omega, by simpa using hil, by simpa using get_at hil i2 (by assumption)⟩⟩
      · refine ⟨i + 1, ⟨rfl, by omega, fun p hp => ?_⟩, by omega⟩
        rw [List.take_succ_eq_append_getElem hil] at hp
        rcases List.mem_append.1 hp with hp | hp
        · exact i2 p hp
        · obtain rfl := List.mem_singleton.1 hp
          assumption
    · have : i = l.length := by omega
      subst this
      rw [List.take_length] at i2
      repeat' first | simp (disch := first | omega | assumption | decide) only [go_sem, hm, hz, ht, hr_, g0, g1, g5, wdl, bind_some_, map_some_, oneD_fold] | refine ifP_in (fun _ => ?_) fun _ => ?_
      exact ⟨-1, rfl, .inr ⟨rfl, get_none i2⟩⟩

theorem data_w (l : Files) (n : Bs) (hl : l.length < 100000000) : WF Tryz.prog cfg 75 [.sl (l.map fileA), .str n] H (fun r H' => r = .sl ((Dk.data l n).map byteA) ∧ H' = H) := by
  have hm : ∀ d, cfg.muF 75 d = (false) := fun _ => rfl
  have hz : ∀ d, cfg.fzF 75 d = (false) := fun _ => rfl
  have ht : ∀ d, cfg.tkF 75 d = (false) := fun _ => rfl
  have hr_ : ∀ g, cfg.raw g = (g == 68) := fun _ => rfl
  refine rF_fn rfl rfl Tryz.func75 rfl ?_
  repeat' first | simp (disch := first | omega | assumption | decide) only [go_sem, hm, hz, ht, hr_] | refine ifP_in (fun _ => ?_) fun _ => ?_
  refine rF_use (find_w l n hl) ?_
  rintro _ K ⟨⟨k, rfl, hk⟩, rfl⟩
  rcases hk with ⟨h0, h1, h2⟩ | ⟨rfl, h2⟩
  · obtain ⟨i, rfl⟩ : ∃ i : Nat, k = i := ⟨k.toNat, by omega⟩
    simp only [Int.toNat_natCast] at h1 h2
    have hix := ix_at' h1
    have hd : Dk.data l n = l[i].2 := by unfold Dk.data; rw [h2]; rfl
    rw [hd]
    repeat' first | simp (disch := first | omega | assumption | decide) only [go_sem, hm, hz, ht, hr_, hix, cells_fileA, cells_byt, wdl, bind_some_, map_some_, oneD_fold] | refine ifP_in (fun _ => ?_) fun _ => ?_
    rfl
  · have hd : Dk.data l n = [] := by unfold Dk.data; rw [h2]; rfl
    rw [hd]
    repeat' first | simp (disch := first | omega | assumption | decide) only [go_sem, hm, hz, ht, hr_, wdl, bind_some_, map_some_, oneD_fold] | refine ifP_in (fun _ => ?_) fun _ => ?_

theorem used_take {l : Files} {i : Nat} (hi : i < l.length) : Dk.used (l.take (i + 1)) = Dk.used (l.take i) + l[i].2.length := by
  unfold Dk.used
  rw [List.take_succ_eq_append_getElem hi, List.map_append, List.sum_append]
  simp
theorem used_take_le (l : Files) (i : Nat) : Dk.used (l.take i) ≤ Dk.used l := by
  have : Dk.used l = Dk.used (l.take i) + Dk.used (l.drop i) := by
    unfold Dk.used
    rw [← List.sum_append, ← List.map_append, List.take_append_drop]
  omega
theorem rused_w (l : Files) (hl : l.length < 100000000) (hu : Dk.used l ≤ 4000000000) : WF Tryz.prog cfg 88 [.sl (l.map fileA)] H (fun r H' => r = .i (Dk.used l) ∧ H' = H) := by
  have hm : ∀ d, cfg.muF 88 d = (false) := fun _ => rfl
  have hz : ∀ d, cfg.fzF 88 d = (false) := fun _ => rfl
  have ht : ∀ d, cfg.tkF 88 d = (false) := fun _ => rfl
  have hr_ : ∀ g, cfg.raw g = (g == 68) := fun _ => rfl
  refine rF_fn rfl rfl Tryz.func88 rfl ?_
  repeat' first | simp (disch := first | omega | assumption | decide) only [go_sem, hm, hz, ht, hr_] | refine ifP_in (fun _ => ?_) fun _ => ?_
  refine rL_loop (σ := Nat) (fun i e K => K = H ∧ e 0 = .sl (l.map fileA) ∧ e 3 = .i (Dk.used (l.take i)) ∧ e 4 = .i i ∧ i ≤ l.length) (fun i => l.length - i) 0 ?_ ?_
  · refine ⟨rfl, ?_, ?_, ?_, by omega⟩
    all_goals first | (simp (disch := first | assumption | omega) only [go_sem]; done) | (simp (disch := first | assumption | omega) only [go_sem]; rfl)
  · rintro i e K ⟨hK, g0, g3, g4, i1⟩
    have hK := hK.symm
    subst hK
    by_cases hil : i < l.length
    · have hix := ix_at' hil
      have h1 := used_take hil
      have h2 := used_take_le l (i + 1)
      repeat' first | simp (disch := first | omega | assumption | decide) only [go_sem, hm, hz, ht, hr_, g0, g3, g4, hix, cells_fileA, cells_byt, AV.bytes, wdl, bind_some_, map_some_, oneD_fold] | refine ifP_in (fun _ => ?_) fun _ => ?_
      exact ⟨i + 1, ⟨by rw [h1]; push_cast; rfl, rfl, by omega⟩, by omega⟩
    · have : i = l.length := by omega
      subst this
      rw [List.take_length] at g3
      repeat' first | simp (disch := first | omega | assumption | decide) only [go_sem, hm, hz, ht, hr_, g0, g3, g4, wdl, bind_some_, map_some_, oneD_fold] | refine ifP_in (fun _ => ?_) fun _ => ?_

theorem without_take {l : Files} {n : Bs} {i : Nat} (hi : i < l.length) : Dr.without (l.take (i + 1)) n = Dr.without (l.take i) n ++ (if l[i].1 ≠ n then [l[i]] else []) := by
  unfold Dr.without
  rw [List.take_succ_eq_append_getElem hi, List.filter_append]
  congr 1
  by_cases h : l[i].1 = n
  · rw [List.filter_cons_of_neg (by simpa using h), if_neg (by simpa using h)]; rfl
  · rw [List.filter_cons_of_pos (by simpa using h), if_pos h]; rfl
theorem without_le (l : Files) (n : Bs) : (Dr.without l n).length ≤ l.length := List.length_filter_le _ _
theorem without_w (l : Files) (n : Bs) (hl : l.length < 100000000) : WF Tryz.prog cfg 97 [.sl (l.map fileA), .str n] H (fun r H' => r = .sl ((Dr.without l n).map fileA) ∧ H' = H) := by
  have hm : ∀ d, cfg.muF 97 d = (false) := fun _ => rfl
  have hz : ∀ d, cfg.fzF 97 d = (false) := fun _ => rfl
  have ht : ∀ d, cfg.tkF 97 d = (false) := fun _ => rfl
  have hr_ : ∀ g, cfg.raw g = (g == 68) := fun _ => rfl
  refine rF_fn rfl rfl Tryz.func97 rfl ?_
  repeat' first | simp (disch := first | omega | assumption | decide) only [go_sem, hm, hz, ht, hr_] | refine ifP_in (fun _ => ?_) fun _ => ?_
  refine rL_loop (σ := Nat) (fun i e K => K = H ∧ e 0 = .sl (l.map fileA) ∧ e 1 = .str n ∧ e 5 = .sl ((Dr.without (l.take i) n).map fileA) ∧ e 6 = .i i ∧ i ≤ l.length) (fun i => l.length - i) 0 ?_ ?_
  · refine ⟨rfl, ?_, ?_, ?_, ?_, by omega⟩
    all_goals first | (simp (disch := first | assumption | omega) only [go_sem]; done) | (simp (disch := first | assumption | omega) only [go_sem]; rfl)
  · rintro i e K ⟨hK, g0, g1, g5, g6, i1⟩
    have hK := hK.symm
    subst hK
    by_cases hil : i < l.length
    · have hix := ix_at' hil
      have h1 := without_take (n := n) hil
      have h2 := without_le (l.take i) n
      simp only [List.length_take] at h2
      generalize hy : l[i] = y at *
      have hone := OneOK.h (f := fileA) y
      have hck := cellsOK_of (f := fileA) (n := 2) y
      repeat' first | simp (disch := first | omega | assumption | decide) only [go_sem, hm, hz, ht, hr_, g0, g1, g5, g6, hix, cells_fileA, cells_str, agg_fileA, hck, wdl, bind_some_, map_some_, oneD_fold] | refine ifP_in (fun _ => ?_) fun _ => ?_
      · rename_i hne
        exact ⟨i + 1, ⟨by rw [h1, if_pos hne], rfl, by omega⟩, by omega⟩
      · rename_i hne
        exact ⟨i + 1, ⟨by rw [h1, if_neg hne, List.append_nil], rfl, by omega⟩, by omega⟩
    · have : i = l.length := by omega
      subst this
      rw [List.take_length] at g5
      repeat' first | simp (disch := first | omega | assumption | decide) only [go_sem, hm, hz, ht, hr_, g0, g1, g5, g6, wdl, bind_some_, map_some_, oneD_fold] | refine ifP_in (fun _ => ?_) fun _ => ?_

theorem takeWhile_at {α : Type} {P : α → Bool} : ∀ {l : List α} {k : Nat}, k ≤ l.length → (∀ x ∈ l.take k, P x = true) → (∀ h : k < l.length, P l[k] = false) → l.takeWhile P = l.take k ∧ l.dropWhile P = l.drop k := by
  intro l
  induction l with
  | nil => intro k hk _ _; simp
  | cons x l ih =>
    intro k hk h1 h2
    cases k with
    | zero =>
      have := h2 (by simp)
      simp only [List.getElem_cons_zero] at this
      rw [List.takeWhile_cons_of_neg (by simp [this]), List.dropWhile_cons_of_neg (by simp [this])]
      exact ⟨rfl, rfl⟩
    | succ k =>
      have hx := h1 x (by simp)
      rw [List.takeWhile_cons_of_pos hx, List.dropWhile_cons_of_pos hx]
      obtain ⟨h3, h4⟩ := ih (k := k) (by simpa using hk) (fun y hy => h1 y (by simp [hy])) (fun h => h2 (by simpa using h))
      rw [h3, h4]
      exact ⟨rfl, rfl⟩
theorem ins_at {l : Files} {n b : Bs} {k : Nat} (hk : k ≤ l.length) (h1 : ∀ p ∈ l.take k, p.1 < n) (h2 : ∀ h : k < l.length, ¬ l[k].1 < n) : Dr.ins l n b = l.take k ++ (n, b) :: l.drop k := by
  obtain ⟨h3, h4⟩ := takeWhile_at (P := fun p : Bs × Bs => decide (p.1 < n)) hk (fun x hx => by simpa using h1 x hx) (fun h => by simpa using h2 h)
  unfold Dr.ins
  rw [h3, h4]
theorem with_w (l : Files) (n b : Bs) (hl : l.length < 100000000) : WF Tryz.prog cfg 96 [.sl (l.map fileA), .str n, .sl (b.map byteA)] H (fun r H' => r = .sl ((Dr.with_ l n b).map fileA) ∧ H' = H) := by
  have hm : ∀ d, cfg.muF 96 d = (false) := fun _ => rfl
  have hz : ∀ d, cfg.fzF 96 d = (false) := fun _ => rfl
  have ht : ∀ d, cfg.tkF 96 d = (false) := fun _ => rfl
  have hr_ : ∀ g, cfg.raw g = (g == 68) := fun _ => rfl
  refine rF_fn rfl rfl Tryz.func96 rfl ?_
  repeat' first | simp (disch := first | omega | assumption | decide) only [go_sem, hm, hz, ht, hr_] | refine ifP_in (fun _ => ?_) fun _ => ?_
  refine rF_use (without_w l n hl) ?_
  rintro _ K ⟨rfl, rfl⟩
  have hle := without_le l n
  have hck := cellsOK_of (f := fileA) (n := 2) (n, b)
  have hw : Dr.with_ l n b = Dr.ins (Dr.without l n) n b := rfl
  rw [hw]
  generalize Dr.without l n = l at *
  repeat' first | simp (disch := first | omega | assumption | decide) only [go_sem, hm, hz, ht, hr_] | refine ifP_in (fun _ => ?_) fun _ => ?_
  refine rL_loop (σ := Nat) (fun i e H' => H' = K ∧ e 0 = .sl (l.map fileA) ∧ e 1 = .str n ∧ e 2 = .sl (b.map byteA) ∧ e 7 = .i i ∧ i ≤ l.length ∧ ∀ p ∈ l.take i, p.1 < n) (fun i => l.length - i) 0 ?_ ?_
  · refine ⟨rfl, ?_, ?_, ?_, ?_, by omega, by simp⟩
    all_goals first | (simp (disch := first | assumption | omega) only [go_sem]; done) | (simp (disch := first | assumption | omega) only [go_sem]; rfl)
  · rintro i e H' ⟨hK, g0, g1, g2, g7, i1, i2⟩
    have hK := hK.symm
    subst hK
    by_cases hil : i < l.length
    · have hix := ix_at' hil
      have hlss : Op.bytesLess l[i].1 n = decide (l[i].1 < n) := bytesLess_eq _ _
      by_cases hlt : l[i].1 < n
      · rw [decide_eq_true hlt] at hlss
        repeat' first | simp (disch := first | omega | assumption | decide) only [go_sem, hm, hz, ht, hr_, g0, g1, g2, g7, hix, cells_fileA, cells_str, hlss, wdl, bind_some_, map_some_, oneD_fold] | refine ifP_in (fun _ => ?_) fun _ => ?_
        refine ⟨i + 1, ⟨rfl, by omega, fun p hp => ?_⟩, by omega⟩
        rw [List.take_succ_eq_append_getElem hil] at hp
        rcases List.mem_append.1 hp with hp | hp
        · exact i2 p hp
        · obtain rfl := List.mem_singleton.1 hp
          exact hlt
      · rw [decide_eq_false hlt] at hlss
        rw [ins_at i1 i2 (fun _ => hlt)]
        have a1 : (l.take i).length ≤ 100000000 := by simp; omega
        have a2 : (l.drop i).length ≤ 100000000 := by simp; omega
        repeat' first | simp (disch := first | omega | assumption | decide) only [go_sem, hm, hz, ht, hr_, g0, g1, g2, g7, hix, cells_fileA, cells_str, hlss, agg_file, hck, List.length_append, List.length_cons, List.length_nil, wdl, bind_some_, map_some_, oneD_fold] | refine ifP_in (fun _ => ?_) fun _ => ?_
        rw [List.append_assoc]; rfl
    · have : i = l.length := by omega
      subst this
      rw [ins_at i1 i2 (fun h => absurd h hil)]
      have a1 : (l.take l.length).length ≤ 100000000 := by simp; omega
      have a2 : (l.drop l.length).length ≤ 100000000 := by simp
      repeat' first | simp (disch := first | omega | assumption | decide) only [go_sem, hm, hz, ht, hr_, g0, g1, g2, g7, agg_file, hck, List.length_append, List.length_cons, List.length_nil, wdl, bind_some_, map_some_, oneD_fold] | refine ifP_in (fun _ => ?_) fun _ => ?_
      rw [List.append_assoc]; rfl

theorem rcopy_w (b : Bs) (hb : b.length ≤ 4000000000) : WF Tryz.prog cfg 39 [.sl (b.map byteA)] H (fun r H' => r = .sl (b.map byteA) ∧ H' = H) := by
  have hm : ∀ d, cfg.muF 39 d = (false) := fun _ => rfl
  have hz : ∀ d, cfg.fzF 39 d = (false) := fun _ => rfl
  have ht : ∀ d, cfg.tkF 39 d = (false) := fun _ => rfl
  have hr_ : ∀ g, cfg.raw g = (g == 68) := fun _ => rfl
  refine rF_fn rfl rfl Tryz.func39 rfl ?_
  have h0 : AV.sl [] = .sl (([] : Bs).map byteA) := rfl
  repeat' first | simp (disch := first | omega | assumption | decide) only [go_sem, hm, hz, ht, hr_] | refine ifP_in (fun _ => ?_) fun _ => ?_

def opC (c : Ch) : AV := .agg [.i (Dr.kind c), AV.str c.name, AV.str c.frm, chD c]
instance : CellsN opC 4 := ⟨fun _ => rfl⟩
instance : OneOK opC := ⟨fun c => by simp only [opC, AV.cells, List.all_cons, List.all_nil, chD_one, Bool.and_true, Bool.true_and]; rfl⟩
theorem cells_opC (c : Ch) : (opC c).cells = [.i (Dr.kind c), AV.str c.name, AV.str c.frm, chD c] := rfl
theorem apply_w (l : Files) (c : Ch) (hl : l.length < 10000000) (hu : Dk.used l + c.data.length ≤ 4000000000) : WF Tryz.prog cfg 87 [.sl (l.map fileA), opC c] H (fun r H' => r = .sl ((Dr.apply l c).map fileA) ∧ H <+: H') := by
  have hone := OneOK.h (f := opC) c
  have hcells : (opC c).cells.length = 4 := rfl
  have hda := fun n => Dk.data_le l n
  have hw := fun n => without_le l n
  have hm : ∀ d, cfg.muF 87 d = (false) := fun _ => rfl
  have hz : ∀ d, cfg.fzF 87 d = (false) := fun _ => rfl
  have ht : ∀ d, cfg.tkF 87 d = (false) := fun _ => rfl
  have hr_ : ∀ g, cfg.raw g = (g == 68) := fun _ => rfl
  refine rF_fn rfl rfl Tryz.func87 rfl ?_
  have hb : (H ++ [(opC c).cells])[H.length]? = some [.i (Dr.kind c), AV.str c.name, AV.str c.frm, chD c] := end_get H (opC c).cells
  have hp : H <+: H ++ [(opC c).cells] := List.prefix_append _ _
  generalize hH1 : H ++ [(opC c).cells] = H1 at *
  unfold Dr.apply
  cases hbe : c.behind with
  | true =>
    have hd : chD c = .sl (c.data.map byteA) := chD_data (.inr hbe)
    have hk : Dr.kind c = 2 := by unfold Dr.kind; rw [if_pos hbe]
    rw [hk, hd] at hb
    rw [if_pos rfl]
    have h1 := hda c.name
    repeat' first | simp (disch := first | omega | assumption | decide) only [go_sem, hm, hz, ht, hr_, hone, hH1, hb, wdl, bind_some_, map_some_, oneD_fold] | refine ifP_in (fun _ => ?_) fun _ => ?_
    refine rF_use (data_w l c.name (by omega)) ?_
    rintro _ K ⟨rfl, rfl⟩
    repeat' first | simp (disch := first | omega | assumption | decide) only [go_sem, hm, hz, ht, hr_, hone, hH1, hb, wdl, bind_some_, map_some_, oneD_fold] | refine ifP_in (fun _ => ?_) fun _ => ?_
    refine rF_use (rcopy_w _ (by omega)) ?_
    rintro _ K2 ⟨rfl, rfl⟩
    repeat' first | simp (disch := first | omega | assumption | decide) only [go_sem, hm, hz, ht, hr_, hone, hH1, hb, wdl, bind_some_, map_some_, oneD_fold] | refine ifP_in (fun _ => ?_) fun _ => ?_
    refine rF_use (with_w l c.name _ (by omega)) ?_
    rintro _ K3 ⟨rfl, rfl⟩
    repeat' first | simp (disch := first | omega | assumption | decide) only [go_sem, hm, hz, ht, hr_, hone, hH1, hb, wdl, bind_some_, map_some_, oneD_fold] | refine ifP_in (fun _ => ?_) fun _ => ?_
    exact hp
  | false =>
    rw [if_neg (by simp)]
    cases hpu : c.puts with
    | true =>
      have hd : chD c = .sl (c.data.map byteA) := chD_data (.inl hpu)
      have hk : Dr.kind c = 1 := by unfold Dr.kind; rw [if_neg (by rw [hbe]; simp), if_pos hpu]
      rw [hk, hd] at hb
      rw [if_pos rfl]
      repeat' first | simp (disch := first | omega | assumption | decide) only [go_sem, hm, hz, ht, hr_, hone, hH1, hb, wdl, bind_some_, map_some_, oneD_fold] | refine ifP_in (fun _ => ?_) fun _ => ?_
      refine rF_use (with_w l c.name _ (by omega)) ?_
      rintro _ K3 ⟨rfl, rfl⟩
      repeat' first | simp (disch := first | omega | assumption | decide) only [go_sem, hm, hz, ht, hr_, hone, hH1, hb, wdl, bind_some_, map_some_, oneD_fold] | refine ifP_in (fun _ => ?_) fun _ => ?_
      exact hp
    | false =>
      rw [if_neg (by simp)]
      have hd : chD c = nilA := chD_nil (by rw [hbe, hpu]; simp)
      by_cases hfr : c.frm = []
      · have hk : Dr.kind c = 4 := by unfold Dr.kind; rw [if_neg (by rw [hbe]; simp), if_neg (by rw [hpu]; simp), if_neg (by simpa using hfr)]
        rw [hk, hd] at hb
        rw [if_neg (by simpa using hfr)]
        repeat' first | simp (disch := first | omega | assumption | decide) only [go_sem, hm, hz, ht, hr_, hone, hH1, hb, wdl, bind_some_, map_some_, oneD_fold] | refine ifP_in (fun _ => ?_) fun _ => ?_
        refine rF_use (without_w l c.name (by omega)) ?_
        rintro _ K3 ⟨rfl, rfl⟩
        repeat' first | simp (disch := first | omega | assumption | decide) only [go_sem, hm, hz, ht, hr_, hone, hH1, hb, wdl, bind_some_, map_some_, oneD_fold] | refine ifP_in (fun _ => ?_) fun _ => ?_
        exact hp
      · have hk : Dr.kind c = 3 := by unfold Dr.kind; rw [if_neg (by rw [hbe]; simp), if_neg (by rw [hpu]; simp), if_pos hfr]
        rw [hk, hd] at hb
        rw [if_pos hfr]
        have h2 := hw c.frm
        repeat' first | simp (disch := first | omega | assumption | decide) only [go_sem, hm, hz, ht, hr_, hone, hH1, hb, wdl, bind_some_, map_some_, oneD_fold] | refine ifP_in (fun _ => ?_) fun _ => ?_
        refine rF_use (data_w l c.frm (by omega)) ?_
        rintro _ K ⟨rfl, rfl⟩
        repeat' first | simp (disch := first | omega | assumption | decide) only [go_sem, hm, hz, ht, hr_, hone, hH1, hb, wdl, bind_some_, map_some_, oneD_fold] | refine ifP_in (fun _ => ?_) fun _ => ?_
        refine rF_use (without_w l c.frm (by omega)) ?_
        rintro _ K2 ⟨rfl, rfl⟩
        repeat' first | simp (disch := first | omega | assumption | decide) only [go_sem, hm, hz, ht, hr_, hone, hH1, hb, wdl, bind_some_, map_some_, oneD_fold] | refine ifP_in (fun _ => ?_) fun _ => ?_
        refine rF_use (with_w _ c.name _ (by omega)) ?_
        rintro _ K3 ⟨rfl, rfl⟩
        repeat' first | simp (disch := first | omega | assumption | decide) only [go_sem, hm, hz, ht, hr_, hone, hH1, hb, wdl, bind_some_, map_some_, oneD_fold] | refine ifP_in (fun _ => ?_) fun _ => ?_
        exact hp
end Jn
end Go.Proofs
/- Walks: the document's disk as it stands in memory; it falls. -/
set_option linter.unusedVariables false
set_option linter.unusedSimpArgs false
namespace Go.Proofs
open Go.Lv
namespace Jn
open Dk (Files Bs Ch Ev)
variable {H : Heap}

def FilesOf (a : AV) (l : Files) : Prop := (a = nilA ∧ l = []) ∨ a = .sl (l.map fileA)
theorem FilesOf.plain {a : AV} {l : Files} (h : FilesOf a l) : plainA a = .sl (l.map fileA) := by rcases h with ⟨rfl, rfl⟩ | rfl <;> rfl
theorem FilesOf.one {a : AV} {l : Files} (h : FilesOf a l) : a.cells = [a] ∧ a.one = true := by rcases h with ⟨rfl, rfl⟩ | rfl <;> exact ⟨rfl, rfl⟩
theorem FilesOf.len {a : AV} {l : Files} (h : FilesOf a l) {el : TypeId} : lenD (some (.slice el)) (owA a) = some (.v (.int .i64 l.length)) := by
  rcases h with ⟨rfl, rfl⟩ | rfl
  · rfl
  · simp [owA, lenD]
structure RefR (H : Heap) (j : Nat) (pn ps pa pl : AV) (r : Dk.Disk) : Prop where
  hj : H[j]? = some [.i r.room, pn, ps, pa, pl, .i r.calls, .b r.down]
  now : FilesOf pn r.now
  sure : FilesOf ps r.dur
  pend : TokOf opC 4 0 H pa r.pend
  plan : TokOf evA 4 0 H pl r.plan
  apart : ∀ x ∈ tokP pa, x ∉ tokP pl
def RefAt (H : Heap) (j : Nat) (S : List Nat) (r : Dk.Disk) : Prop := ∃ pn ps pa pl, RefR H j pn ps pa pl r ∧ S = j :: (tokP pa ++ tokP pl)
/-- Bounds of what stands. -/
structure RB (r : Dk.Disk) : Prop where
  fold : ∀ k, Dk.used ((r.pend.take k).foldl Dr.apply r.dur) ≤ 1073741824 ∧ ((r.pend.take k).foldl Dr.apply r.dur).length ≤ 1000000
  data : ∀ c ∈ r.pend, c.data.length ≤ 1073741824
  pend : r.pend.length ≤ 1000000

theorem pend_at {xs : List Ch} {a : AV} (h : TokOf opC 4 0 H a xs) {i : Nat} (hi : i < xs.length) : indexAddrD Tryz.prog (some (.slice 111)) (owA a) (.i i) = some (.ea (opC xs[i]) 0) := by
  rcases h with ⟨_, rfl⟩ | ⟨k, _, rfl, _⟩
  · simp at hi
  · have e := indexAddrD_map (P := Tryz.prog) (k := .i64) (f := opC) (xs := xs) (el := 111) (i := (i : Int)) (by omega) (by omega)
    show indexAddrD Tryz.prog (some (.slice 111)) (.sl (xs.map opC)) (.i i) = _
    rw [e, size_is (P := Tryz.prog) (t := 111), ix_at' hi]
    rfl
theorem agg_opC (c : Ch) : AV.agg [.i (Dr.kind c), AV.str c.name, AV.str c.frm, chD c] = opC c := rfl
theorem plain_opC (c : Ch) : plainA (opC c) = opC c := rfl
theorem with_len (f : Files) (n b : Bs) : (Dr.with_ f n b).length ≤ f.length + 1 := by
  have h1 := (Dr.ins_perm (f := Dr.without f n) (n := n) (b := b)).length_eq
  have h2 := without_le f n
  unfold Dr.with_
  rw [h1]
  simp; omega
theorem apply_len (f : Files) (c : Ch) : (Dr.apply f c).length ≤ f.length + 1 := by
  unfold Dr.apply
  split
  · exact with_len _ _ _
  · split
    · exact with_len _ _ _
    · split
      · have h1 := with_len (Dr.without f c.frm) c.name (Dk.data f c.frm)
        have h2 := without_le f c.frm
        omega
      · have := without_le f c.name
        omega
theorem append_nil_file {P : Program} {t : TypeId} [SizeIs P t 2] [BytesIs P t 40] [ZeroIs P t [AV.str [], nilA]] : appendD P (some (.slice t)) (some (.slice t)) (.sl []) (.sl []) = some (.sl []) := by
  have := append_map (P := P) (f := fileA) (xs := []) (ys := []) (el := t) (el' := t)
  simp only [List.map_nil, List.append_nil] at this
  rw [this]
  simp (disch := first | omega | assumption | decide) only [go_sem, List.length_nil]
theorem rcrash_w {j : Nat} {S : List Nat} {r : Dk.Disk} (hd : RefAt H j S r) (hB : RB r) (keep part : Int) :
    WF Tryz.prog cfg 51 [.ptr j 0, .i keep, .i part] H (fun r' H' => r' = .tup [] ∧ ∃ S', RefAt H' j S' (Dr.crash r keep part) ∧ Step H S H' S') := by
  obtain ⟨pn, ps, pa, pl, hr, rfl⟩ := hd
  obtain ⟨hj, hnow, hsure, hpend, hplan, hap⟩ := hr
  have hjl : j < H.length := (List.getElem?_eq_some_iff.1 hj).1
  have hm : ∀ d, cfg.muF 51 d = (false) := fun _ => rfl
  have hz : ∀ d, cfg.fzF 51 d = (false) := fun _ => rfl
  have ht : ∀ d, cfg.tkF 51 d = (false) := fun _ => rfl
  have hr_ : ∀ g, cfg.raw g = (g == 68) := fun _ => rfl
  refine rF_fn rfl rfl Tryz.func51 rfl ?_
  cases hdown : r.down with
  | true =>
    rw [hdown] at hj
    repeat' first | simp (disch := first | omega | assumption | decide) only [go_sem, hm, hz, ht, hr_, hj, wdl, bind_some_, map_some_, oneD_fold] | refine ifP_in (fun _ => ?_) fun _ => ?_
    have e : Dr.crash r keep part = r := by unfold Dr.crash; rw [if_pos hdown]
    rw [e]
    exact ⟨_, ⟨pn, ps, pa, pl, ⟨by rw [hdown]; exact hj, hnow, hsure, hpend, hplan, hap⟩, rfl⟩, Step.refl _ _⟩
  | false =>
    rw [hdown] at hj
    obtain ⟨N, hNk⟩ : ∃ N, N = Dk.kept r keep := ⟨_, rfl⟩
    have hN : min (max keep 0) (r.pend.length : Int) = (N : Int) := by rw [hNk]; unfold Dk.kept; omega
    have hNl : N ≤ r.pend.length := by omega
    have hpl := fun el => hpend.len (el := el)
    have hPB := hB.pend
    repeat' first | simp (disch := first | omega | assumption | decide) only [go_sem, hm, hz, ht, hr_, hj, hpl, hN, wdl, bind_some_, map_some_, oneD_fold] | refine ifP_in (fun _ => ?_) fun _ => ?_
    refine rL_loop (σ := Nat) (fun i e K => e 0 = .ptr j 0 ∧ e 2 = .i part ∧ (∃ x, e 6 = x ∧ FilesOf x ((r.pend.take i).foldl Dr.apply r.dur)) ∧ e 7 = .i N ∧ e 8 = .i i ∧ i ≤ N ∧ H <+: K) (fun i => N - i) 0 ?_ ?_
    · refine ⟨?_, ?_, ⟨ps, ?_, hsure⟩, ?_, ?_, by omega, List.prefix_refl _⟩
      all_goals first | (simp (disch := first | assumption | omega) only [go_sem, hN]; done) | (simp (disch := first | assumption | omega) only [go_sem, hN]; rfl)
    · rintro i e K ⟨g0, g2, ⟨x, g6, hx⟩, g7, g8, i1, i2⟩
      have kj := pre_get i2 hj
      have hB1 := hB.fold i
      by_cases hiN : i < N
      · have hip : i < r.pend.length := by omega
        have hidx := pend_at hpend hip
        have hdt := hB.data _ (List.getElem_mem hip)
        have hfx : (r.pend.take (i + 1)).foldl Dr.apply r.dur = Dr.apply ((r.pend.take i).foldl Dr.apply r.dur) r.pend[i] := by rw [List.take_succ_eq_append_getElem hip, List.foldl_append]; rfl
        generalize (r.pend.take i).foldl Dr.apply r.dur = f at *
        generalize r.pend[i] = c at *
        have hpx := hx.plain
        repeat' first | simp (disch := first | omega | assumption | decide) only [go_sem, hm, hz, ht, hr_, g0, g2, g6, g7, g8, kj, hidx, cells_opC, agg_opC, hpx, plain_opC, wdl, bind_some_, map_some_, oneD_fold] | refine ifP_in (fun _ => ?_) fun _ => ?_
        refine rF_use (apply_w f c (by omega) (by omega)) ?_
        rintro _ K2 ⟨rfl, hp2⟩
        repeat' first | simp (disch := first | omega | assumption | decide) only [go_sem, hm, hz, ht, hr_, g0, g2, g6, g7, g8, wdl, bind_some_, map_some_, oneD_fold] | refine ifP_in (fun _ => ?_) fun _ => ?_
        exact ⟨i + 1, ⟨⟨_, rfl, by rw [hfx]; exact .inr rfl⟩, rfl, by omega, i2.trans hp2⟩, by omega⟩
      · have : i = N := by omega
        subst this
        have hfin : ∀ F y, FilesOf y F → Dr.fallen r keep part = F → ∀ K3, H <+: K3 → ∃ S', RefAt (K3.set j [.i r.room, y, .sl (F.map fileA), nilA, pl, .i r.calls, .b true]) j S' (Dr.crash r keep part) ∧ Step H (j :: (tokP pa ++ tokP pl)) (K3.set j [.i r.room, y, .sl (F.map fileA), nilA, pl, .i r.calls, .b true]) S' := by
          intro F y hy hF K3 hp3
          have hl3 := pre_len hp3
          have e1 : Dr.crash r keep part = { r with now := F, dur := F, pend := [], down := true } := by unfold Dr.crash; rw [if_neg (by rw [hdown]; simp), hF]
          rw [e1]
          have hjpl : ∀ k, k ∈ tokP pl → j ≠ k := by
            rintro k hk rfl
            rcases hplan with ⟨rfl, _⟩ | ⟨k', _, rfl, h3, _⟩
            · simp [tokP_nil] at hk
            · simp only [tokP, List.mem_singleton] at hk
              subst hk
              rw [hj] at h3; cases h3
          refine ⟨_, ⟨y, _, nilA, pl, ⟨get_set (by omega), hy, .inr rfl, TokOf.nil, ?_, by simp [tokP_nil]⟩, rfl⟩, ⟨by simp; omega, fun z hz2 hS => ?_, fun z hz2 => ?_⟩⟩
          · rcases hplan with h | ⟨k', h1, rfl, h3, h4⟩
            · exact .inl h
            · exact .inr ⟨k', h1, rfl, by rw [get_set_ne_ (hjpl k' (by simp [tokP]))]; exact pre_get hp3 h3, h4⟩
          · rw [get_set_ne_ (fun e => hS (by simp [e]))]
            obtain ⟨G, rfl⟩ := hp3
            exact List.getElem?_append_left hz2
          · left
            simp only [tokP_nil, List.nil_append, List.mem_cons] at hz2
            simp only [List.mem_cons, List.mem_append]
            rcases hz2 with h | h
            · exact .inl h
            · exact .inr (.inr h)
        by_cases hlt : i < r.pend.length
        · have hidx := pend_at hpend hlt
          have hdt := hB.data _ (List.getElem_mem hlt)
          have hFt : Dr.fallen r keep part = match Dk.torn r.pend[i] part with
              | some c => Dr.apply ((r.pend.take i).foldl Dr.apply r.dur) c
              | none => (r.pend.take i).foldl Dr.apply r.dur := by
            unfold Dr.fallen
            simp only
            first
              | (rw [← hNk, List.getElem?_eq_getElem hlt]; done)
              | (rw [← hNk, List.getElem?_eq_getElem hlt]; rfl)
          generalize r.pend[i] = c at *
          by_cases hpb : c.puts = true ∨ c.behind = true
          · have hk2 : Dr.kind c ≤ 2 := by
              unfold Dr.kind
              split
              · omega
              · rename_i h1
                rw [if_pos (by rcases hpb with h | h; · exact h
                               · exact absurd h h1)]
                omega
            have hd := chD_data hpb
            by_cases hpn : part < 0 ∨ (c.data.length : Int) ≤ part
            · have ht0 : Dk.torn c part = none := by unfold Dk.torn; rw [if_pos (.inr hpn)]
              rw [ht0] at hFt
              have hF : Dr.fallen r keep part = (r.pend.take i).foldl Dr.apply r.dur := hFt
              have hf := hfin _ x hx hF
              generalize (r.pend.take i).foldl Dr.apply r.dur = f at *
              by_cases hp0 : part < 0
              · have hx1 := hx.one
                have a1 := hB1.2
                rcases hx with ⟨rfl, rfl⟩ | rfl
                · have ha0 := append_nil_file (P := Tryz.prog) (t := 126)
                  repeat' first | simp (disch := first | omega | assumption | decide) only [go_sem, hm, hz, ht, hr_, g0, g2, g6, g7, g8, kj, hpl, hidx, cells_opC, hd, List.length_nil, ha0, wdl, bind_some_, map_some_, oneD_fold] | refine ifP_in (fun _ => ?_) fun _ => ?_
                  simp only [List.set_set]
                  exact hf K i2
                · repeat' first | simp (disch := first | omega | assumption | decide) only [go_sem, hm, hz, ht, hr_, g0, g2, g6, g7, g8, kj, hpl, hidx, cells_opC, hd, wdl, bind_some_, map_some_, oneD_fold] | refine ifP_in (fun _ => ?_) fun _ => ?_
                  simp only [List.set_set]
                  exact hf K i2
              · have hx1 := hx.one
                have a1 := hB1.2
                rcases hx with ⟨rfl, rfl⟩ | rfl
                · have ha0 := append_nil_file (P := Tryz.prog) (t := 126)
                  repeat' first | simp (disch := first | omega | assumption | decide) only [go_sem, hm, hz, ht, hr_, g0, g2, g6, g7, g8, kj, hpl, hidx, cells_opC, hd, List.length_nil, ha0, wdl, bind_some_, map_some_, oneD_fold] | refine ifP_in (fun _ => ?_) fun _ => ?_
                  simp only [List.set_set]
                  exact hf K i2
                · repeat' first | simp (disch := first | omega | assumption | decide) only [go_sem, hm, hz, ht, hr_, g0, g2, g6, g7, g8, kj, hpl, hidx, cells_opC, hd, wdl, bind_some_, map_some_, oneD_fold] | refine ifP_in (fun _ => ?_) fun _ => ?_
                  simp only [List.set_set]
                  exact hf K i2
            · have ht0 : Dk.torn c part = some { c with data := c.data.take part.toNat } := by
                unfold Dk.torn
                rw [if_neg]
                rintro (h | h)
                · rcases hpb with h' | h' <;> simp [h'] at h
                · exact hpn h
              rw [ht0] at hFt
              have hx1 := hx.one
              have hpx := hx.plain
              repeat' first | simp (disch := first | omega | assumption | decide) only [go_sem, hm, hz, ht, hr_, g0, g2, g6, g7, g8, kj, hpl, hidx, cells_opC, hd, wdl, bind_some_, map_some_, oneD_fold] | refine ifP_in (fun _ => ?_) fun _ => ?_
              have k1 : ((K ++ [[AV.v (Value.int IntKind.i64 0), AV.str [], AV.str [], nilA]]).set K.length [AV.i (Dr.kind c), AV.str c.name, AV.str c.frm, AV.sl (c.data.map byteA)])[K.length]? = some [AV.i (Dr.kind c), AV.str c.name, AV.str c.frm, AV.sl (c.data.map byteA)] := get_set (by simp)
              have k2 : K <+: (K ++ [[AV.v (Value.int IntKind.i64 0), AV.str [], AV.str [], nilA]]).set K.length [AV.i (Dr.kind c), AV.str c.name, AV.str c.frm, AV.sl (c.data.map byteA)] := pre_set1 (List.prefix_append _ _) (Nat.le_refl _) _
              generalize (K ++ [[AV.v (Value.int IntKind.i64 0), AV.str [], AV.str [], nilA]]).set K.length [AV.i (Dr.kind c), AV.str c.name, AV.str c.frm, AV.sl (c.data.map byteA)] = K2 at k1 k2 ⊢
              have hKl := pre_len i2
              have hKl2 : K.length < K2.length := (List.getElem?_eq_some_iff.1 k1).1
              refine rF_use (rcopy_w _ (by simp; omega)) ?_
              rintro _ K3 ⟨rfl, rfl⟩
              repeat' first | simp (disch := first | omega | assumption | decide) only [go_sem, hm, hz, ht, hr_, g0, g2, g6, g7, g8, k1, wdl, bind_some_, map_some_, oneD_fold] | refine ifP_in (fun _ => ?_) fun _ => ?_
              have k4 : (K3.set K.length [AV.i (Dr.kind c), AV.str c.name, AV.str c.frm, AV.sl ((c.data.take part.toNat).map byteA)])[K.length]? = some [AV.i (Dr.kind c), AV.str c.name, AV.str c.frm, AV.sl ((c.data.take part.toNat).map byteA)] := get_set hKl2
              have k5 : K <+: K3.set K.length [AV.i (Dr.kind c), AV.str c.name, AV.str c.frm, AV.sl ((c.data.take part.toNat).map byteA)] := pre_set1 k2 (Nat.le_refl _) _
              have hc' : AV.agg [AV.i (Dr.kind c), AV.str c.name, AV.str c.frm, AV.sl ((c.data.take part.toNat).map byteA)] = opC { c with data := c.data.take part.toNat } := by
                rw [← agg_opC, chD_data (c := { c with data := c.data.take part.toNat }) hpb]
                rfl
              have hF : Dr.fallen r keep part = Dr.apply ((r.pend.take i).foldl Dr.apply r.dur) { c with data := c.data.take part.toNat } := hFt
              have hf := hfin _ _ (.inr rfl) hF
              generalize (r.pend.take i).foldl Dr.apply r.dur = f at *
              have a1 := hB1.2
              have hB2 := hB1.1
              rw [hc']
              generalize K3.set K.length [AV.i (Dr.kind c), AV.str c.name, AV.str c.frm, AV.sl ((c.data.take part.toNat).map byteA)] = K4 at k4 k5 ⊢
              rw [hpx]
              refine rF_use (apply_w f _ (by omega) (by simp; omega)) ?_
              rintro _ K5 ⟨rfl, hp5⟩
              have hp6 := i2.trans (k5.trans hp5)
              have kj5 := pre_get hp6 hj
              generalize hG : Dr.apply f { c with data := c.data.take part.toNat } = G at *
              have hGl : G.length ≤ 10000000 := by
                rw [← hG]; exact Nat.le_trans (apply_len f _) (by omega)
              repeat' first | simp (disch := first | omega | assumption | decide) only [go_sem, hm, hz, ht, hr_, g0, g2, g6, g7, g8, kj5, wdl, bind_some_, map_some_, oneD_fold] | refine ifP_in (fun _ => ?_) fun _ => ?_
              simp only [List.set_set]
              exact hf K5 hp6
          · have hk2 : ¬ Dr.kind c ≤ 2 := by
              unfold Dr.kind
              rw [if_neg (fun h => hpb (.inr h)), if_neg (fun h => hpb (.inl h))]
              split <;> omega
            have hd := chD_nil hpb
            have ht0 : Dk.torn c part = none := by unfold Dk.torn; rw [if_pos (.inl ⟨by cases h : c.puts <;> simp_all, by cases h : c.behind <;> simp_all⟩)]
            rw [ht0] at hFt
            have hF : Dr.fallen r keep part = (r.pend.take i).foldl Dr.apply r.dur := hFt
            have hf := hfin _ x hx hF
            generalize (r.pend.take i).foldl Dr.apply r.dur = f at *
            have hx1 := hx.one
            have a1 := hB1.2
            rcases hx with ⟨rfl, rfl⟩ | rfl
            · have ha0 := append_nil_file (P := Tryz.prog) (t := 126)
              repeat' first | simp (disch := first | omega | assumption | decide) only [go_sem, hm, hz, ht, hr_, g0, g2, g6, g7, g8, kj, hpl, hidx, cells_opC, hd, List.length_nil, ha0, wdl, bind_some_, map_some_, oneD_fold] | refine ifP_in (fun _ => ?_) fun _ => ?_
              simp only [List.set_set]
              exact hf K i2
            · repeat' first | simp (disch := first | omega | assumption | decide) only [go_sem, hm, hz, ht, hr_, g0, g2, g6, g7, g8, kj, hpl, hidx, cells_opC, hd, wdl, bind_some_, map_some_, oneD_fold] | refine ifP_in (fun _ => ?_) fun _ => ?_
              simp only [List.set_set]
              exact hf K i2
        · have hF : Dr.fallen r keep part = (r.pend.take i).foldl Dr.apply r.dur := by
            unfold Dr.fallen
            simp only
            rw [← hNk, List.getElem?_eq_none (by omega)]
          have hf := hfin _ x hx hF
          generalize (r.pend.take i).foldl Dr.apply r.dur = f at *
          have hidx := trivial
          have hd := trivial
          have hx1 := hx.one
          have a1 := hB1.2
          rcases hx with ⟨rfl, rfl⟩ | rfl
          · have ha0 := append_nil_file (P := Tryz.prog) (t := 126)
            repeat' first | simp (disch := first | omega | assumption | decide) only [go_sem, hm, hz, ht, hr_, g0, g2, g6, g7, g8, kj, hpl, hidx, cells_opC, hd, List.length_nil, ha0, wdl, bind_some_, map_some_, oneD_fold] | refine ifP_in (fun _ => ?_) fun _ => ?_
            simp only [List.set_set]
            exact hf K i2
          · repeat' first | simp (disch := first | omega | assumption | decide) only [go_sem, hm, hz, ht, hr_, g0, g2, g6, g7, g8, kj, hpl, hidx, cells_opC, hd, wdl, bind_some_, map_some_, oneD_fold] | refine ifP_in (fun _ => ?_) fun _ => ?_
            simp only [List.set_set]
            exact hf K i2
end Jn
end Go.Proofs
/- Walks: a call of the document's disk begins. -/
set_option linter.unusedVariables false
set_option linter.unusedSimpArgs false
namespace Go.Proofs
open Go.Lv
namespace Jn
open Dk (Files Bs Ch Ev)
variable {H : Heap}

theorem rname_w (s : Bs) (hs : s.length ≤ 140737488355328) : WF Tryz.prog cfg 84 [.str s] H (fun r H' => r = .b (Dk.nameOk s) ∧ H' = H) := by
  have hm : ∀ d, cfg.muF 84 d = (false) := fun _ => rfl
  have hz : ∀ d, cfg.fzF 84 d = (false) := fun _ => rfl
  have ht : ∀ d, cfg.tkF 84 d = (false) := fun _ => rfl
  have hr_ : ∀ g, cfg.raw g = (g == 68) := fun _ => rfl
  refine rF_fn rfl rfl Tryz.func84 rfl ?_
  repeat' first | simp (disch := first | omega | assumption | decide) only [go_sem, hm, hz, ht, hr_] | refine ifP_in (fun _ => ?_) fun _ => ?_
  refine rL_loop (σ := Nat) (fun i e K => K = H ∧ e 0 = .str s ∧ e 3 = .i i ∧ i ≤ s.length ∧ (s.take i).all Dk.okc = true) (fun i => s.length - i) 0 ?_ ?_
  · refine ⟨rfl, ?_, ?_, by omega, rfl⟩
    all_goals first | (simp (disch := first | assumption | omega) only [go_sem]; done) | (simp (disch := first | assumption | omega) only [go_sem]; rfl)
  · rintro i e K ⟨hK, g0, g3, i1, i2⟩
    have hK := hK.symm
    subst hK
    by_cases hil : i < s.length
    · have hix : ix s (i : Int) = s[i] := by simp [ix, List.getD_eq_getElem?_getD, List.getElem?_eq_getElem hil]
      have hsnoc : (s.take (i + 1)).all Dk.okc = ((s.take i).all Dk.okc && Dk.okc s[i]) := by rw [List.take_succ_eq_append_getElem hil, List.all_append]; simp
      have hbad : Dk.okc s[i] = false → Dk.nameOk s = false := by
        intro h
        unfold Dk.nameOk
        have : s.all Dk.okc = false := by
          rw [List.all_eq_false]
          exact ⟨s[i], List.getElem_mem hil, by simp [h]⟩
        simp [this]
      have hgood : Dk.okc s[i] = true → (s.take (i + 1)).all Dk.okc = true := by intro h; rw [hsnoc, i2, h]; rfl
      have hokc : Dk.okc s[i] = ((decide (97 ≤ s[i].toNat) && decide (s[i].toNat ≤ 122)) || (decide (65 ≤ s[i].toNat) && decide (s[i].toNat ≤ 90)) || (decide (48 ≤ s[i].toNat) && decide (s[i].toNat ≤ 57)) || decide (s[i].toNat = 46) || decide (s[i].toNat = 45) || decide (s[i].toNat = 95)) := rfl
      generalize s[i] = c at *
      repeat' first | simp (disch := first | omega | assumption | decide) only [go_sem, hm, hz, ht, hr_, g0, g3, hix] | refine ifP_in (fun _ => ?_) fun _ => ?_
      all_goals first
        | (have hk : Dk.okc c = true := by rw [hokc]; simp; omega
           exact ⟨i + 1, ⟨rfl, by omega, hgood hk⟩, by omega⟩)
        | (have hk : Dk.okc c = false := by rw [hokc]; simp; omega
           rw [hbad hk])
    · have : i = s.length := by omega
      subst this
      rw [List.take_length] at i2
      have hno : Dk.nameOk s = (decide (s ≠ []) && decide (s.length ≤ 64)) := by unfold Dk.nameOk; rw [i2, Bool.true_and]
      rw [hno]
      have hne : s ≠ [] ↔ 1 ≤ (s.length : Int) := by cases s <;> simp; omega
      by_cases h1 : 1 ≤ (s.length : Int)
      · by_cases h2 : (s.length : Int) ≤ 64
        · repeat' first | simp (disch := first | omega | assumption | decide) only [go_sem, hm, hz, ht, hr_, g0, g3] | refine ifP_in (fun _ => ?_) fun _ => ?_
          rw [decide_eq_true (hne.2 h1), decide_eq_true (show s.length ≤ 64 by omega), decide_eq_true h2]; rfl
        · repeat' first | simp (disch := first | omega | assumption | decide) only [go_sem, hm, hz, ht, hr_, g0, g3] | refine ifP_in (fun _ => ?_) fun _ => ?_
          rw [decide_eq_true (hne.2 h1), decide_eq_false (show ¬ s.length ≤ 64 by omega), decide_eq_false h2]; rfl
      · repeat' first | simp (disch := first | omega | assumption | decide) only [go_sem, hm, hz, ht, hr_, g0, g3] | refine ifP_in (fun _ => ?_) fun _ => ?_
        rw [decide_eq_false (fun h => h1 (hne.1 h))]; rfl

theorem RefAt.same {H' : Heap} {j : Nat} {S : List Nat} {r : Dk.Disk} (h : RefAt H j S r) (he : ∀ x ∈ S, H'[x]? = H[x]?) : RefAt H' j S r := by
  obtain ⟨pn, ps, pa, pl, hr, rfl⟩ := h
  refine ⟨pn, ps, pa, pl, ⟨?_, hr.now, hr.sure, ?_, ?_, hr.apart⟩, rfl⟩
  · rw [he j (by simp)]; exact hr.hj
  · rcases hr.pend with h | ⟨k, h1, rfl, h3, h4⟩
    · exact .inl h
    · exact .inr ⟨k, h1, rfl, by rw [he k (by simp [tokP])]; exact h3, h4⟩
  · rcases hr.plan with h | ⟨k, h1, rfl, h3, h4⟩
    · exact .inl h
    · exact .inr ⟨k, h1, rfl, by rw [he k (by simp [tokP])]; exact h3, h4⟩
theorem RefAt.lt {j : Nat} {S : List Nat} {r : Dk.Disk} (h : RefAt H j S r) : ∀ x ∈ S, x < H.length := by
  obtain ⟨pn, ps, pa, pl, hr, rfl⟩ := h
  intro x hx
  simp only [List.mem_cons, List.mem_append] at hx
  have tk : ∀ {α : Type} {f : α → AV} {k : Nat} {a : AV} {xs : List α}, TokOf f k 0 H a xs → x ∈ tokP a → x < H.length := by
    intro α f k a xs ht hx
    rcases ht with ⟨rfl, _⟩ | ⟨k', h1, rfl, h3, h4⟩
    · rw [tokP_nil] at hx; simp at hx
    · simp only [tokP, List.mem_singleton] at hx
      subst hx
      exact (List.getElem?_eq_some_iff.1 h3).1
  rcases hx with rfl | hx | hx
  · exact (List.getElem?_eq_some_iff.1 hr.hj).1
  · exact tk hr.pend hx
  · exact tk hr.plan hx
theorem RefAt.grew {H' : Heap} {j : Nat} {S : List Nat} {r : Dk.Disk} (h : RefAt H j S r) (he : ∀ x, x < H.length → H'[x]? = H[x]?) : RefAt H' j S r := h.same fun x hx => he x (h.lt x hx)
theorem RefAt.cells {j : Nat} {S : List Nat} {r : Dk.Disk} (h : RefAt H j S r) : ∃ pn ps pa pl, H[j]? = some [.i r.room, pn, ps, pa, pl, .i r.calls, .b r.down] ∧ TokOf evA 4 0 H pl r.plan := by
  obtain ⟨pn, ps, pa, pl, hr, rfl⟩ := h
  exact ⟨pn, ps, pa, pl, hr.hj, hr.plan⟩
theorem evs_at {xs : List Ev} {a : AV} (h : TokOf evA 4 0 H a xs) {i : Nat} (hi : i < xs.length) : indexAddrD Tryz.prog (some (.slice 122)) (owA a) (.i i) = some (.ea (evA xs[i]) 0) := by
  rcases h with ⟨_, rfl⟩ | ⟨k, _, rfl, _⟩
  · simp at hi
  · have e := indexAddrD_map (P := Tryz.prog) (k := .i64) (f := evA) (xs := xs) (el := 122) (i := (i : Int)) (by omega) (by omega)
    show indexAddrD Tryz.prog (some (.slice 122)) (.sl (xs.map evA)) (.i i) = _
    rw [e, size_is (P := Tryz.prog) (t := 122), ix_at' hi]
    rfl
theorem rb_of {m : Int} {s r : Dk.Disk} (h : Dr.Two m s r) (hm : m ≤ 1000000) (hc : s.calls ≤ 1000000) : RB r := by
  refine ⟨fun k => ?_, fun c hcm => ?_, ?_⟩
  · rw [h.pend]
    have h1 := h.dur.fold (s.pend.take k)
    rw [h1.used, h1.len]
    have h2 := h.cnt k
    exact ⟨h.ok.size k, by omega⟩
  · rw [h.pend] at hcm
    obtain ⟨k, hk, rfl⟩ := List.mem_iff_getElem.1 hcm
    exact h.ok.data_len k hk
  · rw [h.pend]
    have := h.ok.pend
    omega
theorem Step.set_in {H : Heap} {S : List Nat} {j : Nat} (hj : j ∈ S) (cs : List AV) : Step H S (H.set j cs) S := ⟨by simp, fun i hi hS => by rw [get_set_ne_ (fun h => hS (by rw [← h]; exact hj))], fun x hx => .inl hx⟩

theorem begin_w {j : Nat} {S : List Nat} {m : Int} {s r : Dk.Disk} (hd : RefAt H j S r) (h2 : Dr.Two m s r) (hmm : m ≤ 1000000) (hc : s.calls < 1000000) (hpl : r.plan.length < 1000000) (n : Bs) (named : Bool) (hn : n.length ≤ 140737488355328) :
    WF Tryz.prog cfg 73 [.ptr j 0, .str n, .b named] H (fun r' H' => r' = .tup [.b (Dr.begin r n named).2.1, .i (Dr.begin r n named).2.2] ∧ ∃ S', RefAt H' j S' (Dr.begin r n named).1 ∧ Step H S H' S') := by
  have hlt := hd.lt
  obtain ⟨pn, ps, pa, pl, hr, rfl⟩ := hd
  have hc0 := h2.ok.calls
  have hcr := h2.calls
  have hjl := hlt j (by simp)
  have hd1 : RefAt (H.set j [.i r.room, pn, ps, pa, pl, .i (r.calls + 1), .b r.down]) j (j :: (tokP pa ++ tokP pl)) { r with calls := r.calls + 1 } := by
    have hne : ∀ x, x ∈ tokP pa ∨ x ∈ tokP pl → j ≠ x := by
      rintro x hx rfl
      rcases hx with hx | hx
      · rcases hr.pend with ⟨rfl, _⟩ | ⟨k, h1, rfl, h3, h4⟩
        · simp [tokP_nil] at hx
        · simp only [tokP, List.mem_singleton] at hx; subst hx; have := hr.hj; rw [h3] at this; cases this
      · rcases hr.plan with ⟨rfl, _⟩ | ⟨k, h1, rfl, h3, h4⟩
        · simp [tokP_nil] at hx
        · simp only [tokP, List.mem_singleton] at hx; subst hx; have := hr.hj; rw [h3] at this; cases this
    refine ⟨pn, ps, pa, pl, ⟨get_set hjl, hr.now, hr.sure, ?_, ?_, hr.apart⟩, rfl⟩
    · rcases hr.pend with h | ⟨k, h1, rfl, h3, h4⟩
      · exact .inl h
      · exact .inr ⟨k, h1, rfl, by rw [get_set_ne_ (hne k (.inl (by simp [tokP])))]; exact h3, h4⟩
    · rcases hr.plan with h | ⟨k, h1, rfl, h3, h4⟩
      · exact .inl h
      · exact .inr ⟨k, h1, rfl, by rw [get_set_ne_ (hne k (.inr (by simp [tokP])))]; exact h3, h4⟩
  have hs1 : Step H (j :: (tokP pa ++ tokP pl)) (H.set j [.i r.room, pn, ps, pa, pl, .i (r.calls + 1), .b r.down]) (j :: (tokP pa ++ tokP pl)) := Step.set_in (by simp) _
  have hj := hr.hj
  have hm : ∀ d, cfg.muF 73 d = (false) := fun _ => rfl
  have hz : ∀ d, cfg.fzF 73 d = (false) := fun _ => rfl
  have ht : ∀ d, cfg.tkF 73 d = (false) := fun _ => rfl
  have hr_ : ∀ g, cfg.raw g = (g == 68) := fun _ => rfl
  refine rF_fn rfl rfl Tryz.func73 rfl ?_
  generalize hS : (j :: (tokP pa ++ tokP pl)) = S at *
  generalize hH1 : H.set j [.i r.room, pn, ps, pa, pl, .i (r.calls + 1), .b r.down] = H1 at *
  repeat' first | simp (disch := first | omega | assumption | decide) only [go_sem, hm, hz, ht, hr_, hj, hH1, wdl, bind_some_, map_some_, oneD_fold] | refine ifP_in (fun _ => ?_) fun _ => ?_
  obtain ⟨st, hst⟩ : ∃ st : Nat → Dk.Disk × Bool × Bool, st = fun i => (r.plan.take i).foldl Dr.evStep ({ r with calls := r.calls + 1 }, false, false) := ⟨_, rfl⟩
  have st0 : st 0 = ({ r with calls := r.calls + 1 }, false, false) := by rw [hst]; rfl
  have stS : ∀ i, (hi : i < r.plan.length) → st (i + 1) = Dr.evStep (st i) r.plan[i] := fun i hi => by rw [hst]; simp only; rw [List.take_succ_eq_append_getElem hi, List.foldl_append]; rfl
  have stE : st r.plan.length = Dr.events r := by rw [hst]; simp only [List.take_length]; rfl
  have stB : ∀ i, RB (st i).1 ∧ (st i).1.calls = r.calls + 1 ∧ (st i).1.plan = r.plan := by
    intro i
    have hb : Dr.Both m ((r.plan.take i).foldl Dk.evStep ({ s with calls := s.calls + 1 }, false, false)) (st i) := by
      rw [hst]
      exact Dr.Both.fold _ ⟨h2.more, rfl⟩
    have hcc := hb.two.calls
    have e1 : (st i).1.calls = r.calls + 1 ∧ (st i).1.plan = r.plan := by
      rw [hst]
      have : ∀ (l : List Ev) (a : Dk.Disk × Bool × Bool), (l.foldl Dr.evStep a).1.calls = a.1.calls ∧ (l.foldl Dr.evStep a).1.plan = a.1.plan := by
        intro l
        induction l with
        | nil => intro a; exact ⟨rfl, rfl⟩
        | cons e l ih =>
          intro a
          obtain ⟨h1, h2⟩ := ih (Dr.evStep a e)
          obtain ⟨g1, g2⟩ := Dr.evStep_calls a e
          exact ⟨h1.trans g1, h2.trans g2⟩
      exact this _ _
    exact ⟨rb_of hb.two hmm (by rw [← hcc, e1.1]; omega), e1.1, e1.2⟩
  refine rL_loop (σ := Nat) (fun i e K => e 0 = .ptr j 0 ∧ e 1 = .str n ∧ e 2 = .b named ∧ e 8 = .b (st i).2.1 ∧ e 9 = .b (st i).2.2 ∧ e 10 = .i i ∧ i ≤ r.plan.length ∧ ∃ S', RefAt K j S' (st i).1 ∧ Step H S K S') (fun i => r.plan.length - i) 0 ?_ ?_
  · refine ⟨?_, ?_, ?_, ?_, ?_, ?_, by omega, S, by rw [st0]; exact hd1, hs1⟩
    all_goals first | (simp (disch := first | assumption | omega) only [go_sem, st0]; done) | (simp (disch := first | assumption | omega) only [go_sem, st0]; rfl)
  · rintro i e K ⟨g0, g1, g2, g8, g9, g10, i1, S', hdk, hsk⟩
    obtain ⟨pn', ps', pa', pl', kj, hpk⟩ := hdk.cells
    have hjK : j < K.length := (List.getElem?_eq_some_iff.1 kj).1
    obtain ⟨hoki, hci, hpi⟩ := stB i
    rw [hpi] at hpk
    have hpln := fun el => hpk.len (el := el)
    by_cases hil : i < r.plan.length
    · have hidx := evs_at hpk hil
      have hnext := stS i hil
      generalize r.plan[i] = x at *
      have hx : ((evA x).cells) = [AV.i x.at_, AV.i x.kind, AV.i x.keep, AV.i x.torn] := rfl
      have hKl : K.length < (K ++ [[AV.v (Value.int IntKind.i64 0), AV.v (Value.int IntKind.i64 0), AV.v (Value.int IntKind.i64 0), AV.v (Value.int IntKind.i64 0)]]).length := by simp
      have k1 : ((K ++ [[AV.v (Value.int IntKind.i64 0), AV.v (Value.int IntKind.i64 0), AV.v (Value.int IntKind.i64 0), AV.v (Value.int IntKind.i64 0)]]).set K.length [AV.i x.at_, AV.i x.kind, AV.i x.keep, AV.i x.torn])[K.length]? = some [AV.i x.at_, AV.i x.kind, AV.i x.keep, AV.i x.torn] := get_set hKl
      have k2 : ∀ y, y < K.length → ((K ++ [[AV.v (Value.int IntKind.i64 0), AV.v (Value.int IntKind.i64 0), AV.v (Value.int IntKind.i64 0), AV.v (Value.int IntKind.i64 0)]]).set K.length [AV.i x.at_, AV.i x.kind, AV.i x.keep, AV.i x.torn])[y]? = K[y]? := fun y hy => by rw [get_set_ne_ (by omega), get_old_ hy]
      have k3 : K.length ≤ ((K ++ [[AV.v (Value.int IntKind.i64 0), AV.v (Value.int IntKind.i64 0), AV.v (Value.int IntKind.i64 0), AV.v (Value.int IntKind.i64 0)]]).set K.length [AV.i x.at_, AV.i x.kind, AV.i x.keep, AV.i x.torn]).length := by simp
      have kj' := k2 j hjK
      rw [kj] at kj'
      have hdk' : RefAt ((K ++ [[AV.v (Value.int IntKind.i64 0), AV.v (Value.int IntKind.i64 0), AV.v (Value.int IntKind.i64 0), AV.v (Value.int IntKind.i64 0)]]).set K.length [AV.i x.at_, AV.i x.kind, AV.i x.keep, AV.i x.torn]) j S' (st i).1 := hdk.grew k2
      have hsk' : Step H S ((K ++ [[AV.v (Value.int IntKind.i64 0), AV.v (Value.int IntKind.i64 0), AV.v (Value.int IntKind.i64 0), AV.v (Value.int IntKind.i64 0)]]).set K.length [AV.i x.at_, AV.i x.kind, AV.i x.keep, AV.i x.torn]) S' := hsk.trans (Step.grew k3 k2)
      generalize hK' : (K ++ [[AV.v (Value.int IntKind.i64 0), AV.v (Value.int IntKind.i64 0), AV.v (Value.int IntKind.i64 0), AV.v (Value.int IntKind.i64 0)]]).set K.length [AV.i x.at_, AV.i x.kind, AV.i x.keep, AV.i x.torn] = K' at *
      repeat' first | simp (disch := first | omega | assumption | decide) only [go_sem, hm, hz, ht, hr_, g0, g1, g2, g8, g9, g10, kj, hpln, hidx, hx, hK', k1, kj', wdl, bind_some_, map_some_, oneD_fold] | refine ifP_in (fun _ => ?_) fun _ => ?_
      · have hq : st (i + 1) = st i := by rw [hnext]; unfold Dr.evStep; rw [if_pos (by assumption)]
        exact ⟨i + 1, ⟨by rw [hq], by rw [hq], rfl, by omega, S', by rw [hq]; exact hdk', hsk'⟩, by omega⟩
      · refine rF_use (rcrash_w hdk' hoki x.keep x.torn) ?_
        rintro _ K2 ⟨rfl, S2, hd2, hs2⟩
        have hq : st (i + 1) = (Dr.crash (st i).1 x.keep x.torn, (st i).2.1, (st i).2.2) := by rw [hnext]; unfold Dr.evStep; rw [if_neg (by assumption), if_pos (by assumption)]
        repeat' first | simp (disch := first | omega | assumption | decide) only [go_sem, hm, hz, ht, hr_, g0, g1, g2, g8, g9, g10, wdl, bind_some_, map_some_, oneD_fold] | refine ifP_in (fun _ => ?_) fun _ => ?_
        exact ⟨i + 1, ⟨by rw [hq], by rw [hq], rfl, by omega, S2, by rw [hq]; exact hd2, hsk'.trans hs2⟩, by omega⟩
      · have hq : st (i + 1) = ((st i).1, true, (st i).2.2) := by rw [hnext]; unfold Dr.evStep; rw [if_neg (by assumption), if_neg (by assumption), if_pos (by assumption)]
        exact ⟨i + 1, ⟨by rw [hq], by rw [hq], rfl, by omega, S', by rw [hq]; exact hdk', hsk'⟩, by omega⟩
      · have hq : st (i + 1) = ((st i).1, (st i).2.1, true) := by rw [hnext]; unfold Dr.evStep; rw [if_neg (by assumption), if_neg (by assumption), if_neg (by assumption), if_pos (by assumption)]
        exact ⟨i + 1, ⟨by rw [hq], by rw [hq], rfl, by omega, S', by rw [hq]; exact hdk', hsk'⟩, by omega⟩
      · have hq : st (i + 1) = st i := by rw [hnext]; unfold Dr.evStep; rw [if_neg (by assumption), if_neg (by assumption), if_neg (by assumption), if_neg (by assumption)]
        exact ⟨i + 1, ⟨by rw [hq], by rw [hq], rfl, by omega, S', by rw [hq]; exact hdk', hsk'⟩, by omega⟩
    · have : i = r.plan.length := by omega
      subst this
      have hcall : Dr.begin r n named = ((Dr.events r).1, (Dr.events r).2.1, if (Dr.events r).1.down = true then 9 else if (Dr.events r).2.2 = true then 8 else if named = true ∧ Dk.nameOk n = false then 4 else 0) := rfl
      rw [hcall]
      rw [stE] at *
      generalize Dr.events r = q at *
      cases hdn : q.1.down with
      | true =>
        rw [hdn] at kj
        repeat' first | simp (disch := first | omega | assumption | decide) only [go_sem, hm, hz, ht, hr_, g0, g1, g2, g8, g9, g10, kj, hpln, wdl, bind_some_, map_some_, oneD_fold] | refine ifP_in (fun _ => ?_) fun _ => ?_
        exact ⟨S', hdk, hsk⟩
      | false =>
        rw [hdn] at kj
        cases hbr : q.2.2 with
        | true =>
          rw [hbr] at g9
          repeat' first | simp (disch := first | omega | assumption | decide) only [go_sem, hm, hz, ht, hr_, g0, g1, g2, g8, g9, g10, kj, hpln, wdl, bind_some_, map_some_, oneD_fold] | refine ifP_in (fun _ => ?_) fun _ => ?_
          exact ⟨S', hdk, hsk⟩
        | false =>
          rw [hbr] at g9
          cases named with
          | false =>
            repeat' first | simp (disch := first | omega | assumption | decide) only [go_sem, hm, hz, ht, hr_, g0, g1, g2, g8, g9, g10, kj, hpln, wdl, bind_some_, map_some_, oneD_fold] | refine ifP_in (fun _ => ?_) fun _ => ?_
            exact ⟨by simp, S', hdk, hsk⟩
          | true =>
            repeat' first | simp (disch := first | omega | assumption | decide) only [go_sem, hm, hz, ht, hr_, g0, g1, g2, g8, g9, g10, kj, hpln, wdl, bind_some_, map_some_, oneD_fold] | refine ifP_in (fun _ => ?_) fun _ => ?_
            refine rF_use (rname_w n hn) ?_
            rintro _ K3 ⟨rfl, rfl⟩
            cases hno : Dk.nameOk n with
            | true =>
              repeat' first | simp (disch := first | omega | assumption | decide) only [go_sem, hm, hz, ht, hr_, g0, g1, g2, g8, g9, g10, wdl, bind_some_, map_some_, oneD_fold] | refine ifP_in (fun _ => ?_) fun _ => ?_
              exact ⟨S', hdk, hsk⟩
            | false =>
              repeat' first | simp (disch := first | omega | assumption | decide) only [go_sem, hm, hz, ht, hr_, g0, g1, g2, g8, g9, g10, wdl, bind_some_, map_some_, oneD_fold] | refine ifP_in (fun _ => ?_) fun _ => ?_
              exact ⟨S', hdk, hsk⟩

theorem change_w {j : Nat} {S : List Nat} {r : Dk.Disk} (hd : RefAt H j S r) (c : Ch) (hl : r.now.length ≤ 1000000) (hp : r.pend.length ≤ 1000000) (hu : Dk.used r.now ≤ 1073741824) (hcd : c.data.length ≤ 1073741824) :
    WF Tryz.prog cfg 77 [.ptr j 0, opC c] H (fun r' H' => r' = .tup [] ∧ ∃ S', RefAt H' j S' (Dr.change r c) ∧ Step H S H' S') := by
  have hlt := hd.lt
  obtain ⟨pn, ps, pa, pl, hr, rfl⟩ := hd
  have hone := OneOK.h (f := opC) c
  have hcells : (opC c).cells.length = 4 := rfl
  obtain ⟨hj, hnow, hsure, hpend, hplan, hap⟩ := hr
  have hjl := hlt j (by simp)
  have htok : ∀ x ∈ tokP pa, x ≠ j ∧ x ∉ tokP pl ∧ x < H.length := by
    intro x hx
    refine ⟨?_, hap x hx, hlt x (by simp [hx])⟩
    rcases hpend with ⟨rfl, _⟩ | ⟨k, _, rfl, hk, _⟩
    · simp [tokP_nil] at hx
    · simp only [tokP, List.mem_singleton] at hx
      subst hx
      rintro rfl; rw [hj] at hk; cases hk
  have htpl : ∀ x ∈ tokP pl, x ≠ j ∧ x < H.length := by
    intro x hx
    refine ⟨?_, hlt x (by simp [hx])⟩
    rcases hplan with ⟨rfl, _⟩ | ⟨k, _, rfl, hk, _⟩
    · simp [tokP_nil] at hx
    · simp only [tokP, List.mem_singleton] at hx
      subst hx
      rintro rfl; rw [hj] at hk; cases hk
  have hm : ∀ d, cfg.muF 77 d = (false) := fun _ => rfl
  have hz : ∀ d, cfg.fzF 77 d = (false) := fun _ => rfl
  have ht : ∀ d, cfg.tkF 77 d = (d == 20) := fun _ => rfl
  have hr_ : ∀ g, cfg.raw g = (g == 68) := fun _ => rfl
  refine rF_fn rfl rfl Tryz.func77 rfl ?_
  have hb1 : (H ++ [(opC c).cells])[H.length]? = some [.i (Dr.kind c), AV.str c.name, AV.str c.frm, chD c] := end_get H (opC c).cells
  have hp1 : H <+: H ++ [(opC c).cells] := List.prefix_append _ _
  generalize hH1 : H ++ [(opC c).cells] = H1 at *
  have hj1 := pre_get hp1 hj
  have hpx := hnow.plain
  repeat' first | simp (disch := first | omega | assumption | decide) only [go_sem, hm, hz, ht, hr_, hone, hH1, hb1, hj1, agg_opC, hpx, plain_opC, wdl, bind_some_, map_some_, oneD_fold] | refine ifP_in (fun _ => ?_) fun _ => ?_
  refine rF_use (apply_w r.now c (by omega) (by omega)) ?_
  rintro _ H2 ⟨rfl, hp2⟩
  have hb2 := pre_get hp2 hb1
  have hj2 := pre_get hp2 hj1
  have hp12 := hp1.trans hp2
  have hl2 := pre_len hp12
  have hH1l : H1.length = H.length + 1 := by rw [← hH1]; simp
  have hl2' := pre_len hp2
  have hcj : j ≠ H.length := by omega
  repeat' first | simp (disch := first | omega | assumption | decide) only [go_sem, hm, hz, ht, hr_, hone, hb2, hj2, wdl, bind_some_, map_some_, oneD_fold] | refine ifP_in (fun _ => ?_) fun _ => ?_
  have hb3 : (H2.set j [.i r.room, .sl ((Dr.apply r.now c).map fileA), ps, pa, pl, .i r.calls, .b r.down])[H.length]? = some [.i (Dr.kind c), AV.str c.name, AV.str c.frm, chD c] := by rw [get_set_ne_ hcj]; exact hb2
  have hj3 : (H2.set j [.i r.room, .sl ((Dr.apply r.now c).map fileA), ps, pa, pl, .i r.calls, .b r.down])[j]? = some [.i r.room, .sl ((Dr.apply r.now c).map fileA), ps, pa, pl, .i r.calls, .b r.down] := get_set (by omega)
  have m3 : ∀ y, y < H.length → y ≠ j → (H2.set j [.i r.room, .sl ((Dr.apply r.now c).map fileA), ps, pa, pl, .i r.calls, .b r.down])[y]? = H[y]? := fun y hy hne => by
    rw [get_set_ne_ (fun h => hne h.symm)]
    obtain ⟨G, rfl⟩ := hp12
    exact List.getElem?_append_left hy
  have l3 : H.length < (H2.set j [.i r.room, .sl ((Dr.apply r.now c).map fileA), ps, pa, pl, .i r.calls, .b r.down]).length := by simp; omega
  generalize H2.set j [.i r.room, .sl ((Dr.apply r.now c).map fileA), ps, pa, pl, .i r.calls, .b r.down] = H3 at hb3 hj3 m3 l3 ⊢
  have hpend3 : TokOf opC 4 0 H3 pa r.pend := by
    rcases hpend with h | ⟨k, h1, rfl, h3, h4⟩
    · exact .inl h
    · obtain ⟨q1, q2, q3⟩ := htok k (by simp [tokP])
      exact .inr ⟨k, h1, rfl, by rw [m3 k q3 q1]; exact h3, h4⟩
  have hck := cellsOK_of (f := opC) (n := 4) c
  repeat' first | simp (disch := first | omega | assumption | decide) only [go_sem, hm, hz, ht, hr_, hone, hb3, hj3, agg_opC, hck, wdl, bind_some_, map_some_, oneD_fold] | refine ifP_in (fun _ => ?_) fun _ => ?_
  refine ⟨Or.inl (by decide +kernel), ?_⟩
  refine bind_appendF (f := opC) (ys := [c]) hpend3 (by omega) rfl (by simp) (by simp; omega) ?_
  intro a' H4 hp4 hs4 hl4 ht4 ho4
  have hjt : j ∉ tokP pa := fun h => (htok j h).1 rfl
  have hj4 : H4[j]? = some [.i r.room, .sl ((Dr.apply r.now c).map fileA), ps, pa, pl, .i r.calls, .b r.down] := by rw [hs4 j (by omega) hjt]; exact hj3
  have hst : ∀ cs, storeC Tryz.prog 67 H4 j (0 + 3) a' cs = storeS H4 j (0 + 3) a' cs := fun cs => storeC_one ho4.1 ho4.2
  have hst2 : ∀ cs, storeC Tryz.prog 67 H4 j 3 a' cs = storeS H4 j 3 a' cs := fun cs => storeC_one ho4.1 ho4.2
  have hct : H.length ∉ tokP pa := fun h => by have := (htok _ h).2.2; omega
  have hb4 : H4[H.length]? = some [.i (Dr.kind c), AV.str c.name, AV.str c.frm, chD c] := by rw [hs4 _ (by omega) hct]; exact hb3
  repeat' first | simp (disch := first | omega | assumption | decide) only [go_sem, hm, hz, ht, hr_, hone, hb4, hj4, hst, hst2, agg_opC, wdl, bind_some_, map_some_, oneD_fold] | refine ifP_in (fun _ => ?_) fun _ => ?_
  refine ⟨Or.inl (by decide +kernel), ?_⟩
  repeat' first | simp (disch := first | omega | assumption | decide) only [go_sem, hm, hz, ht, hr_, hone, hb4, hj4, hst, hst2, wdl, bind_some_, map_some_, oneD_fold] | refine ifP_in (fun _ => ?_) fun _ => ?_
  have hH3j : H3.length ≠ j := by omega
  refine ⟨_, ⟨_, ps, a', pl, ⟨get_set (by omega), .inr rfl, hsure, ?_, ?_, ?_⟩, rfl⟩, ⟨by simp; omega, fun x hx hS => ?_, fun x hx => ?_⟩⟩
  · rcases hp4 with ⟨_, h⟩ | ⟨k, h1, rfl, h3, h4⟩
    · simp at h
    · refine .inr ⟨k, h1, rfl, ?_, h4⟩
      have : k = H3.length := by simpa [tokP] using ht4
      rw [get_set_ne_ (by omega)]; exact h3
  · rcases hplan with h | ⟨k, h1, rfl, h3, h4⟩
    · exact .inl h
    · obtain ⟨q1, q2⟩ := htpl k (by simp [tokP])
      have q3 : k ∉ tokP pa := fun h => hap k h (by simp [tokP])
      refine .inr ⟨k, h1, rfl, ?_, h4⟩
      rw [get_set_ne_ (fun e => q1 e.symm), hs4 k (by omega) q3, m3 k q2 q1]
      exact h3
  · intro x hx hx2
    rw [ht4] at hx
    obtain rfl := List.mem_singleton.1 hx
    have := (htpl _ hx2).2
    omega
  · simp only [List.mem_cons, List.mem_append, not_or] at hS
    rw [get_set_ne_ (fun h => hS.1 h.symm), hs4 x (by omega) hS.2.1, m3 x hx hS.1]
  · rw [ht4] at hx
    simp only [List.mem_cons, List.mem_append, List.not_mem_nil, or_false] at hx ⊢
    rcases hx with rfl | rfl | hx
    · exact .inl (.inl rfl)
    · exact .inr (by omega)
    · exact .inl (.inr (.inr hx))
end Jn
end Go.Proofs
/- Walks: the calls of the document's disk. -/
set_option linter.unusedVariables false
set_option linter.unusedSimpArgs false
namespace Go.Proofs
open Go.Lv
namespace Jn
open Dk (Files Bs Ch Ev)
variable {H : Heap}

structure Can2 (s r : Dk.Disk) : Prop where
  live : Dr.Live s r
  calls : s.calls < 900000
  plan : r.plan.length < 1000000
/-- What is known behind the beginning of a call. -/
structure Begun (s r : Dk.Disk) : Prop where
  used : Dk.used r.now ≤ 1073741824
  len : r.now.length ≤ 1000000
  pend : r.pend.length ≤ 1000000
  room : 0 ≤ r.room ∧ r.room ≤ 1073741824
theorem Can2.begun {s r : Dk.Disk} (h : Can2 s r) : Begun s (Dr.events r).1 := by
  obtain ⟨h1, h2, h3⟩ := h.live.begun
  have hc := h.calls
  have hr := h1.nowR
  have hl := h1.lenNow
  have hb := rb_of h1 (by omega) (by rw [(Dk.events_calls s).1]; omega)
  refine ⟨by rw [hr.used]; exact h1.ok.used, by rw [hr.len]; omega, hb.pend, ?_⟩
  rw [h1.room]; exact h1.ok.room
theorem rbegin_w {j : Nat} {S : List Nat} {s r : Dk.Disk} (hd : RefAt H j S r) (h : Can2 s r) (n : Bs) (named : Bool) (hn : n.length ≤ 1000000) :
    WF Tryz.prog cfg 73 [.ptr j 0, .str n, .b named] H (fun r' H' => r' = .tup [.b (Dr.begin r n named).2.1, .i (Dr.begin r n named).2.2] ∧ ∃ S', RefAt H' j S' (Dr.events r).1 ∧ Step H S H' S') :=
  begin_w hd h.live.two (by have := h.calls; omega) (by have := h.calls; omega) h.plan n named (by omega)

theorem rput_w {j : Nat} {S : List Nat} {s r : Dk.Disk} (hd : RefAt H j S r) (h : Can2 s r) (n b : Bs) (w : Bool) (hn : n.length ≤ 1000000) (hb : b.length ≤ 140737488355328) :
    WF Tryz.prog cfg 83 [.ptr j 0, .i (if w = true then 1 else 2), .str n, .sl (b.map byteA)] H (fun r' H' => r' = .i (if w = true then Dr.write r n b else Dr.append r n b).2 ∧ ∃ S', RefAt H' j S' (if w = true then Dr.write r n b else Dr.append r n b).1 ∧ Step H S H' S') := by
  have hm : ∀ d, cfg.muF 83 d = (false) := fun _ => rfl
  have hz : ∀ d, cfg.fzF 83 d = (false) := fun _ => rfl
  have ht : ∀ d, cfg.tkF 83 d = (false) := fun _ => rfl
  have hr_ : ∀ g, cfg.raw g = (g == 68) := fun _ => rfl
  refine rF_fn rfl rfl Tryz.func83 rfl ?_
  repeat' first | simp (disch := first | omega | assumption | decide) only [go_sem, hm, hz, ht, hr_, wdl, bind_some_, map_some_, oneD_fold] | refine ifP_in (fun _ => ?_) fun _ => ?_
  refine rF_use (rbegin_w hd h n true hn) ?_
  rintro _ H1 ⟨rfl, S1, hd1, hs1⟩
  have hbg := h.begun
  have hq1 : (Dr.begin r n true).1 = (Dr.events r).1 := rfl
  have e1 : Dr.write r n b = if (Dr.begin r n true).2.2 ≠ 0 then ((Dr.events r).1, (Dr.begin r n true).2.2) else if (Dr.begin r n true).2.1 = true ∨ (Dr.events r).1.room < (Dk.used (Dr.events r).1.now : Int) + b.length - (Dk.data (Dr.events r).1.now n).length then ((Dr.events r).1, 7) else (Dr.change (Dr.events r).1 ⟨n, [], b, true, false⟩, 0) := rfl
  have e2 : Dr.append r n b = if (Dr.begin r n true).2.2 ≠ 0 then ((Dr.events r).1, (Dr.begin r n true).2.2) else if (Dr.begin r n true).2.1 = true ∨ (Dr.events r).1.room < (Dk.used (Dr.events r).1.now : Int) + b.length then ((Dr.events r).1, 7) else (Dr.change (Dr.events r).1 ⟨n, [], b, false, true⟩, 0) := rfl
  rw [e1, e2]
  clear e1 e2 hq1
  generalize (Dr.begin r n true).2 = q at *
  generalize (Dr.events r).1 = r1 at *
  by_cases h0 : q.2 = 0
  · have hx0 : ¬ (q.2 ≠ 0) := by simpa using h0
    rw [if_neg hx0, if_neg hx0]
    obtain ⟨pn, ps, pa, pl, hr, hS⟩ := hd1
    have hd1 : RefAt H1 j S1 r1 := ⟨pn, ps, pa, pl, hr, hS⟩
    have hj1 := hr.hj
    have hpx := hr.now.plain
    have hdl := Dk.data_le r1.now n
    have hb1 := hbg.used
    have hb2 := hbg.len
    have hb3 := hbg.pend
    have hb4 := hbg.room
    repeat' first | simp (disch := first | omega | assumption | decide) only [go_sem, hm, hz, ht, hr_, h0, hj1, hpx, wdl, bind_some_, map_some_, oneD_fold] | refine ifP_in (fun _ => ?_) fun _ => ?_
    refine rF_use (rused_w r1.now (by omega) (by omega)) ?_
    rintro _ H2 ⟨rfl, rfl⟩
    have hch := fun (c : Ch) (hc : c.data.length ≤ 1073741824) => change_w hd1 c hb2 hb3 hb1 hc
    cases w with
    | true =>
      have hop : AV.agg [.i 1, AV.str n, AV.str [], .sl (b.map byteA)] = opC ⟨n, [], b, true, false⟩ := rfl
      repeat' first | simp (disch := first | omega | assumption | decide) only [go_sem, hm, hz, ht, hr_, h0, hj1, hpx, wdl, bind_some_, map_some_, oneD_fold] | refine ifP_in (fun _ => ?_) fun _ => ?_
      refine rF_use (data_w r1.now n (by omega)) ?_
      rintro _ H3 ⟨rfl, rfl⟩
      cases hq : q.1 with
      | true =>
        repeat' first | simp (disch := first | omega | assumption | decide) only [go_sem, hm, hz, ht, hr_, h0, hj1, hpx, wdl, bind_some_, map_some_, oneD_fold] | refine ifP_in (fun _ => ?_) fun _ => ?_
        exact ⟨by simp only [true_or, if_true], S1, by simp only [true_or, if_true]; exact hd1, hs1⟩
      | false =>
        by_cases hf : r1.room < (Dk.used r1.now : Int) + b.length - (Dk.data r1.now n).length
        · repeat' first | simp (disch := first | omega | assumption | decide) only [go_sem, hm, hz, ht, hr_, h0, hj1, hpx, wdl, bind_some_, map_some_, oneD_fold] | refine ifP_in (fun _ => ?_) fun _ => ?_
          exact ⟨by simp only [hf, or_true, if_true], S1, by simp only [hf, or_true, if_true]; exact hd1, hs1⟩
        · have hb : b.length ≤ 1073741824 := by omega
          repeat' first | simp (disch := first | omega | assumption | decide) only [go_sem, hm, hz, ht, hr_, h0, hj1, hpx, wdl, bind_some_, map_some_, oneD_fold] | refine ifP_in (fun _ => ?_) fun _ => ?_
          refine rF_use (rcopy_w b (by omega)) ?_
          rintro _ H4 ⟨rfl, rfl⟩
          repeat' first | simp (disch := first | omega | assumption | decide) only [go_sem, hm, hz, ht, hr_, h0, hj1, hpx, hop, wdl, bind_some_, map_some_, oneD_fold] | refine ifP_in (fun _ => ?_) fun _ => ?_
          refine rF_use (hch _ hb) ?_
          rintro _ H5 ⟨rfl, S5, hd5, hs5⟩
          repeat' first | simp (disch := first | omega | assumption | decide) only [go_sem, hm, hz, ht, hr_, h0, wdl, bind_some_, map_some_, oneD_fold] | refine ifP_in (fun _ => ?_) fun _ => ?_
          exact ⟨by simp only [hf, or_self, if_false], S5, by simp only [hf, or_self, if_false]; exact hd5, hs1.trans hs5⟩
    | false =>
      have hop : AV.agg [.i 2, AV.str n, AV.str [], .sl (b.map byteA)] = opC ⟨n, [], b, false, true⟩ := rfl
      rw [show (if (false : Bool) = true then (1 : Int) else 2) = 2 from rfl]
      cases hq : q.1 with
      | true =>
        repeat' first | simp (disch := first | omega | assumption | decide) only [go_sem, hm, hz, ht, hr_, h0, hj1, hpx, wdl, bind_some_, map_some_, oneD_fold] | refine ifP_in (fun _ => ?_) fun _ => ?_
        exact ⟨by simp only [Bool.false_eq_true, if_false, true_or, if_true], S1, by simp only [Bool.false_eq_true, if_false, true_or, if_true]; exact hd1, hs1⟩
      | false =>
        by_cases hf : r1.room < (Dk.used r1.now : Int) + b.length
        · repeat' first | simp (disch := first | omega | assumption | decide) only [go_sem, hm, hz, ht, hr_, h0, hj1, hpx, wdl, bind_some_, map_some_, oneD_fold] | refine ifP_in (fun _ => ?_) fun _ => ?_
          exact ⟨by simp only [Bool.false_eq_true, if_false, hf, or_true, if_true], S1, by simp only [Bool.false_eq_true, if_false, hf, or_true, if_true]; exact hd1, hs1⟩
        · have hb : b.length ≤ 1073741824 := by omega
          repeat' first | simp (disch := first | omega | assumption | decide) only [go_sem, hm, hz, ht, hr_, h0, hj1, hpx, wdl, bind_some_, map_some_, oneD_fold] | refine ifP_in (fun _ => ?_) fun _ => ?_
          refine rF_use (rcopy_w b (by omega)) ?_
          rintro _ H4 ⟨rfl, rfl⟩
          repeat' first | simp (disch := first | omega | assumption | decide) only [go_sem, hm, hz, ht, hr_, h0, hj1, hpx, hop, wdl, bind_some_, map_some_, oneD_fold] | refine ifP_in (fun _ => ?_) fun _ => ?_
          refine rF_use (hch _ hb) ?_
          rintro _ H5 ⟨rfl, S5, hd5, hs5⟩
          repeat' first | simp (disch := first | omega | assumption | decide) only [go_sem, hm, hz, ht, hr_, h0, wdl, bind_some_, map_some_, oneD_fold] | refine ifP_in (fun _ => ?_) fun _ => ?_
          exact ⟨by simp only [Bool.false_eq_true, if_false, hf, or_self, if_false], S5, by simp only [Bool.false_eq_true, if_false, hf, or_self, if_false]; exact hd5, hs1.trans hs5⟩
  · have hx0 : q.2 ≠ 0 := h0
    rw [if_pos hx0, if_pos hx0]
    repeat' first | simp (disch := first | omega | assumption | decide) only [go_sem, hm, hz, ht, hr_, wdl, bind_some_, map_some_, oneD_fold] | refine ifP_in (fun _ => ?_) fun _ => ?_
    cases w <;> exact ⟨rfl, S1, hd1, hs1⟩

theorem rwrite_w {j : Nat} {S : List Nat} {s r : Dk.Disk} (hd : RefAt H j S r) (h : Can2 s r) (n b : Bs) (hn : n.length ≤ 1000000) (hb : b.length ≤ 140737488355328) :
    WF Tryz.prog cfg 44 [.ptr j 0, .str n, .sl (b.map byteA)] H (fun r' H' => r' = .i (Dr.write r n b).2 ∧ ∃ S', RefAt H' j S' (Dr.write r n b).1 ∧ Step H S H' S') := by
  have hm : ∀ d, cfg.muF 44 d = (false) := fun _ => rfl
  have hz : ∀ d, cfg.fzF 44 d = (false) := fun _ => rfl
  have ht : ∀ d, cfg.tkF 44 d = (false) := fun _ => rfl
  have hr_ : ∀ g, cfg.raw g = (g == 68) := fun _ => rfl
  refine rF_fn rfl rfl Tryz.func44 rfl ?_
  repeat' first | simp (disch := first | omega | assumption | decide) only [go_sem, hm, hz, ht, hr_, wdl, bind_some_, map_some_, oneD_fold] | refine ifP_in (fun _ => ?_) fun _ => ?_
  refine rF_use (rput_w hd h n b true hn hb) ?_
  rintro _ H1 ⟨rfl, h1⟩
  repeat' first | simp (disch := first | omega | assumption | decide) only [go_sem, hm, hz, ht, hr_, wdl, bind_some_, map_some_, oneD_fold] | refine ifP_in (fun _ => ?_) fun _ => ?_
  exact h1
theorem rappend_w {j : Nat} {S : List Nat} {s r : Dk.Disk} (hd : RefAt H j S r) (h : Can2 s r) (n b : Bs) (hn : n.length ≤ 1000000) (hb : b.length ≤ 140737488355328) :
    WF Tryz.prog cfg 37 [.ptr j 0, .str n, .sl (b.map byteA)] H (fun r' H' => r' = .i (Dr.append r n b).2 ∧ ∃ S', RefAt H' j S' (Dr.append r n b).1 ∧ Step H S H' S') := by
  have hm : ∀ d, cfg.muF 37 d = (false) := fun _ => rfl
  have hz : ∀ d, cfg.fzF 37 d = (false) := fun _ => rfl
  have ht : ∀ d, cfg.tkF 37 d = (false) := fun _ => rfl
  have hr_ : ∀ g, cfg.raw g = (g == 68) := fun _ => rfl
  refine rF_fn rfl rfl Tryz.func37 rfl ?_
  repeat' first | simp (disch := first | omega | assumption | decide) only [go_sem, hm, hz, ht, hr_, wdl, bind_some_, map_some_, oneD_fold] | refine ifP_in (fun _ => ?_) fun _ => ?_
  refine rF_use (rput_w hd h n b false hn hb) ?_
  rintro _ H1 ⟨rfl, h1⟩
  repeat' first | simp (disch := first | omega | assumption | decide) only [go_sem, hm, hz, ht, hr_, wdl, bind_some_, map_some_, oneD_fold] | refine ifP_in (fun _ => ?_) fun _ => ?_
  exact h1
theorem has_of {f : Files} {n : Bs} {k : Int} (h : (0 ≤ k ∧ ∃ h : k.toNat < f.length, Dk.get f n = some f[k.toNat].2) ∨ (k = -1 ∧ Dk.get f n = none)) : (k < 0 ↔ Dk.has f n = false) := by
  unfold Dk.has
  rcases h with ⟨h0, h1, h2⟩ | ⟨rfl, h2⟩
  · rw [h2]; simp; omega
  · rw [h2]; simp
theorem rrename_w {j : Nat} {S : List Nat} {s r : Dk.Disk} (hd : RefAt H j S r) (h : Can2 s r) (n m : Bs) (hn : n.length ≤ 1000000) (hml : m.length ≤ 1000000) :
    WF Tryz.prog cfg 45 [.ptr j 0, .str n, .str m] H (fun r' H' => r' = .i (Dr.rename r n m).2 ∧ ∃ S', RefAt H' j S' (Dr.rename r n m).1 ∧ Step H S H' S') := by
  have hm : ∀ d, cfg.muF 45 d = (false) := fun _ => rfl
  have hz : ∀ d, cfg.fzF 45 d = (false) := fun _ => rfl
  have ht : ∀ d, cfg.tkF 45 d = (false) := fun _ => rfl
  have hr_ : ∀ g, cfg.raw g = (g == 68) := fun _ => rfl
  refine rF_fn rfl rfl Tryz.func45 rfl ?_
  repeat' first | simp (disch := first | omega | assumption | decide) only [go_sem, hm, hz, ht, hr_, wdl, bind_some_, map_some_, oneD_fold] | refine ifP_in (fun _ => ?_) fun _ => ?_
  refine rF_use (rbegin_w hd h n true hn) ?_
  rintro _ H1 ⟨rfl, S1, hd1, hs1⟩
  have hbg := h.begun
  have e1 : Dr.rename r n m = if (Dr.begin r n true).2.2 ≠ 0 then ((Dr.events r).1, (Dr.begin r n true).2.2) else if Dk.nameOk m = false then ((Dr.events r).1, 4) else if Dk.has (Dr.events r).1.now n = false then ((Dr.events r).1, 6) else if n = m then ((Dr.events r).1, 0) else (Dr.change (Dr.events r).1 ⟨m, n, [], false, false⟩, 0) := rfl
  have hne : (Dr.begin r n true).2.2 = 0 → n ≠ [] := by
    rintro h0 rfl
    unfold Dr.begin at h0
    simp only at h0
    split at h0
    · cases h0
    · split at h0
      · cases h0
      · rw [if_pos ⟨trivial, by decide⟩] at h0; cases h0
  rw [e1]
  clear e1
  generalize (Dr.begin r n true).2 = q at *
  generalize (Dr.events r).1 = r1 at *
  by_cases h0 : q.2 = 0
  · have hx0 : ¬ (q.2 ≠ 0) := by simpa using h0
    rw [if_neg hx0]
    obtain ⟨pn, ps, pa, pl, hr, hS⟩ := hd1
    have hd1 : RefAt H1 j S1 r1 := ⟨pn, ps, pa, pl, hr, hS⟩
    have hj1 := hr.hj
    have hpx := hr.now.plain
    have hb1 := hbg.used
    have hb2 := hbg.len
    have hb3 := hbg.pend
    have hch := fun (c : Ch) (hc : c.data.length ≤ 1073741824) => change_w hd1 c hb2 hb3 hb1 hc
    have hn0 := hne h0
    have hop : AV.agg [.i 3, AV.str m, AV.str n, nilA] = opC ⟨m, n, [], false, false⟩ := by
      unfold opC Dr.kind chD
      simp [hn0]
    repeat' first | simp (disch := first | omega | assumption | decide) only [go_sem, hm, hz, ht, hr_, h0, hj1, hpx, wdl, bind_some_, map_some_, oneD_fold] | refine ifP_in (fun _ => ?_) fun _ => ?_
    refine rF_use (rname_w m (by omega)) ?_
    rintro _ H2 ⟨rfl, rfl⟩
    cases hno : Dk.nameOk m with
    | false =>
      rw [if_pos rfl]
      repeat' first | simp (disch := first | omega | assumption | decide) only [go_sem, hm, hz, ht, hr_, h0, hj1, hpx, wdl, bind_some_, map_some_, oneD_fold] | refine ifP_in (fun _ => ?_) fun _ => ?_
      exact ⟨S1, hd1, hs1⟩
    | true =>
      rw [if_neg (by simp)]
      repeat' first | simp (disch := first | omega | assumption | decide) only [go_sem, hm, hz, ht, hr_, h0, hj1, hpx, wdl, bind_some_, map_some_, oneD_fold] | refine ifP_in (fun _ => ?_) fun _ => ?_
      refine rF_use (find_w r1.now n (by omega)) ?_
      rintro _ H3 ⟨⟨k, rfl, hk⟩, rfl⟩
      have hk1 := has_of hk
      by_cases hk0 : k < 0
      · rw [if_pos (hk1.1 hk0)]
        repeat' first | simp (disch := first | omega | assumption | decide) only [go_sem, hm, hz, ht, hr_, h0, hj1, hpx, wdl, bind_some_, map_some_, oneD_fold] | refine ifP_in (fun _ => ?_) fun _ => ?_
        exact ⟨S1, hd1, hs1⟩
      · have hh : ¬ Dk.has r1.now n = false := fun h => hk0 (hk1.2 h)
        rw [if_neg hh]
        by_cases hnm : n = m
        · subst hnm
          have hnn : ¬ (n ≠ n) := by simp
          rw [if_pos rfl]
          repeat' first | simp (disch := first | omega | assumption | decide) only [go_sem, hm, hz, ht, hr_, h0, hj1, hpx, wdl, bind_some_, map_some_, oneD_fold] | refine ifP_in (fun _ => ?_) fun _ => ?_
          exact ⟨S1, hd1, hs1⟩
        · rw [if_neg hnm]
          repeat' first | simp (disch := first | omega | assumption | decide) only [go_sem, hm, hz, ht, hr_, h0, hj1, hpx, hop, wdl, bind_some_, map_some_, oneD_fold] | refine ifP_in (fun _ => ?_) fun _ => ?_
          refine rF_use (hch _ (by simp)) ?_
          rintro _ H5 ⟨rfl, S5, hd5, hs5⟩
          repeat' first | simp (disch := first | omega | assumption | decide) only [go_sem, hm, hz, ht, hr_, h0, wdl, bind_some_, map_some_, oneD_fold] | refine ifP_in (fun _ => ?_) fun _ => ?_
          exact ⟨S5, hd5, hs1.trans hs5⟩
  · rw [if_pos h0]
    repeat' first | simp (disch := first | omega | assumption | decide) only [go_sem, hm, hz, ht, hr_, wdl, bind_some_, map_some_, oneD_fold] | refine ifP_in (fun _ => ?_) fun _ => ?_
    exact ⟨S1, hd1, hs1⟩
theorem rdelete_w {j : Nat} {S : List Nat} {s r : Dk.Disk} (hd : RefAt H j S r) (h : Can2 s r) (n : Bs) (hn : n.length ≤ 1000000) :
    WF Tryz.prog cfg 31 [.ptr j 0, .str n] H (fun r' H' => r' = .i (Dr.delete r n).2 ∧ ∃ S', RefAt H' j S' (Dr.delete r n).1 ∧ Step H S H' S') := by
  have hm : ∀ d, cfg.muF 31 d = (false) := fun _ => rfl
  have hz : ∀ d, cfg.fzF 31 d = (false) := fun _ => rfl
  have ht : ∀ d, cfg.tkF 31 d = (false) := fun _ => rfl
  have hr_ : ∀ g, cfg.raw g = (g == 68) := fun _ => rfl
  refine rF_fn rfl rfl Tryz.func31 rfl ?_
  repeat' first | simp (disch := first | omega | assumption | decide) only [go_sem, hm, hz, ht, hr_, wdl, bind_some_, map_some_, oneD_fold] | refine ifP_in (fun _ => ?_) fun _ => ?_
  refine rF_use (rbegin_w hd h n true hn) ?_
  rintro _ H1 ⟨rfl, S1, hd1, hs1⟩
  have hbg := h.begun
  have e1 : Dr.delete r n = if (Dr.begin r n true).2.2 ≠ 0 then ((Dr.events r).1, (Dr.begin r n true).2.2) else if Dk.has (Dr.events r).1.now n = false then ((Dr.events r).1, 6) else (Dr.change (Dr.events r).1 ⟨n, [], [], false, false⟩, 0) := rfl
  rw [e1]
  clear e1
  generalize (Dr.begin r n true).2 = q at *
  generalize (Dr.events r).1 = r1 at *
  by_cases h0 : q.2 = 0
  · have hx0 : ¬ (q.2 ≠ 0) := by simpa using h0
    rw [if_neg hx0]
    obtain ⟨pn, ps, pa, pl, hr, hS⟩ := hd1
    have hd1 : RefAt H1 j S1 r1 := ⟨pn, ps, pa, pl, hr, hS⟩
    have hj1 := hr.hj
    have hpx := hr.now.plain
    have hb1 := hbg.used
    have hb2 := hbg.len
    have hb3 := hbg.pend
    have hch := fun (c : Ch) (hc : c.data.length ≤ 1073741824) => change_w hd1 c hb2 hb3 hb1 hc
    have hop : AV.agg [.i 4, AV.str n, AV.str [], nilA] = opC ⟨n, [], [], false, false⟩ := rfl
    repeat' first | simp (disch := first | omega | assumption | decide) only [go_sem, hm, hz, ht, hr_, h0, hj1, hpx, wdl, bind_some_, map_some_, oneD_fold] | refine ifP_in (fun _ => ?_) fun _ => ?_
    refine rF_use (find_w r1.now n (by omega)) ?_
    rintro _ H3 ⟨⟨k, rfl, hk⟩, rfl⟩
    have hk1 := has_of hk
    by_cases hk0 : k < 0
    · rw [if_pos (hk1.1 hk0)]
      repeat' first | simp (disch := first | omega | assumption | decide) only [go_sem, hm, hz, ht, hr_, h0, hj1, hpx, wdl, bind_some_, map_some_, oneD_fold] | refine ifP_in (fun _ => ?_) fun _ => ?_
      exact ⟨S1, hd1, hs1⟩
    · have hh : ¬ Dk.has r1.now n = false := fun h => hk0 (hk1.2 h)
      rw [if_neg hh]
      repeat' first | simp (disch := first | omega | assumption | decide) only [go_sem, hm, hz, ht, hr_, h0, hj1, hpx, hop, wdl, bind_some_, map_some_, oneD_fold] | refine ifP_in (fun _ => ?_) fun _ => ?_
      refine rF_use (hch _ (by simp)) ?_
      rintro _ H5 ⟨rfl, S5, hd5, hs5⟩
      repeat' first | simp (disch := first | omega | assumption | decide) only [go_sem, hm, hz, ht, hr_, h0, wdl, bind_some_, map_some_, oneD_fold] | refine ifP_in (fun _ => ?_) fun _ => ?_
      exact ⟨S5, hd5, hs1.trans hs5⟩
  · rw [if_pos h0]
    repeat' first | simp (disch := first | omega | assumption | decide) only [go_sem, hm, hz, ht, hr_, wdl, bind_some_, map_some_, oneD_fold] | refine ifP_in (fun _ => ?_) fun _ => ?_
    exact ⟨S1, hd1, hs1⟩

theorem rsync_w {j : Nat} {S : List Nat} {s r : Dk.Disk} (hd : RefAt H j S r) (h : Can2 s r) :
    WF Tryz.prog cfg 38 [.ptr j 0] H (fun r' H' => r' = .i (Dr.sync r).2 ∧ ∃ S', RefAt H' j S' (Dr.sync r).1 ∧ Step H S H' S') := by
  have hm : ∀ d, cfg.muF 38 d = (false) := fun _ => rfl
  have hz : ∀ d, cfg.fzF 38 d = (false) := fun _ => rfl
  have ht : ∀ d, cfg.tkF 38 d = (false) := fun _ => rfl
  have hr_ : ∀ g, cfg.raw g = (g == 68) := fun _ => rfl
  refine rF_fn rfl rfl Tryz.func38 rfl ?_
  have hes : AV.v (.string ByteArray.empty) = AV.str [] := rfl
  repeat' first | simp (disch := first | omega | assumption | decide) only [go_sem, hm, hz, ht, hr_, hes, wdl, bind_some_, map_some_, oneD_fold] | refine ifP_in (fun _ => ?_) fun _ => ?_
  refine rF_use (rbegin_w hd h [] false (by simp)) ?_
  rintro _ H1 ⟨rfl, S1, hd1, hs1⟩
  have hbg := h.begun
  have e1 : Dr.sync r = if (Dr.begin r [] false).2.2 ≠ 0 then ((Dr.events r).1, (Dr.begin r [] false).2.2) else ({ (Dr.events r).1 with dur := (Dr.events r).1.now, pend := [] }, 0) := rfl
  rw [e1]
  clear e1
  generalize (Dr.begin r [] false).2 = q at *
  generalize (Dr.events r).1 = r1 at *
  by_cases h0 : q.2 = 0
  · have hx0 : ¬ (q.2 ≠ 0) := by simpa using h0
    rw [if_neg hx0]
    have hlt := hd1.lt
    obtain ⟨pn, ps, pa, pl, hr, rfl⟩ := hd1
    obtain ⟨hj1, hnow, hsure, hpend, hplan, hap⟩ := hr
    have hjl := hlt j (by simp)
    have hb2 := hbg.len
    have hjpl : ∀ k, k ∈ tokP pl → j ≠ k := by
      rintro k hk rfl
      rcases hplan with ⟨rfl, _⟩ | ⟨k', _, rfl, h3, _⟩
      · simp [tokP_nil] at hk
      · simp only [tokP, List.mem_singleton] at hk
        subst hk
        rw [hj1] at h3; cases h3
    have hfin : ∃ S', RefAt (H1.set j [.i r1.room, pn, .sl (r1.now.map fileA), nilA, pl, .i r1.calls, .b r1.down]) j S' { r1 with dur := r1.now, pend := [] } ∧ Step H S (H1.set j [.i r1.room, pn, .sl (r1.now.map fileA), nilA, pl, .i r1.calls, .b r1.down]) S' := by
      refine ⟨_, ⟨pn, _, nilA, pl, ⟨get_set hjl, hnow, .inr rfl, TokOf.nil, ?_, by simp [tokP_nil]⟩, rfl⟩, hs1.trans ⟨by simp, fun z hz2 hS => ?_, fun z hz2 => ?_⟩⟩
      · rcases hplan with h | ⟨k', h1, rfl, h3, h4⟩
        · exact .inl h
        · exact .inr ⟨k', h1, rfl, by rw [get_set_ne_ (hjpl k' (by simp [tokP]))]; exact h3, h4⟩
      · rw [get_set_ne_ (fun e => hS (by simp [e]))]
      · left
        simp only [tokP_nil, List.nil_append, List.mem_cons] at hz2
        simp only [List.mem_cons, List.mem_append]
        rcases hz2 with h | h
        · exact .inl h
        · exact .inr (.inr h)
    generalize hN : r1.now = f at *
    rcases hnow with ⟨rfl, rfl⟩ | rfl
    · have ha0 := append_nil_file (P := Tryz.prog) (t := 126)
      repeat' first | simp (disch := first | omega | assumption | decide) only [go_sem, hm, hz, ht, hr_, h0, hj1, ha0, wdl, bind_some_, map_some_, oneD_fold] | refine ifP_in (fun _ => ?_) fun _ => ?_
      simp only [List.set_set, hN]
      exact hfin
    · repeat' first | simp (disch := first | omega | assumption | decide) only [go_sem, hm, hz, ht, hr_, h0, hj1, wdl, bind_some_, map_some_, oneD_fold] | refine ifP_in (fun _ => ?_) fun _ => ?_
      simp only [List.set_set, hN]
      exact hfin
  · rw [if_pos h0]
    repeat' first | simp (disch := first | omega | assumption | decide) only [go_sem, hm, hz, ht, hr_, h0, wdl, bind_some_, map_some_, oneD_fold] | refine ifP_in (fun _ => ?_) fun _ => ?_
    exact ⟨S1, hd1, hs1⟩
theorem rread_w {j : Nat} {S : List Nat} {s r : Dk.Disk} (hd : RefAt H j S r) (h : Can2 s r) (n : Bs) (hn : n.length ≤ 1000000) :
    WF Tryz.prog cfg 29 [.ptr j 0, .str n] H (fun r' H' => r' = .tup [.sl ((Dr.read r n).2.1.map byteA), .i (Dr.read r n).2.2] ∧ ∃ S', RefAt H' j S' (Dr.read r n).1 ∧ Step H S H' S') := by
  have hm : ∀ d, cfg.muF 29 d = (false) := fun _ => rfl
  have hz : ∀ d, cfg.fzF 29 d = (false) := fun _ => rfl
  have ht : ∀ d, cfg.tkF 29 d = (false) := fun _ => rfl
  have hr_ : ∀ g, cfg.raw g = (g == 68) := fun _ => rfl
  refine rF_fn rfl rfl Tryz.func29 rfl ?_
  repeat' first | simp (disch := first | omega | assumption | decide) only [go_sem, hm, hz, ht, hr_, wdl, bind_some_, map_some_, oneD_fold] | refine ifP_in (fun _ => ?_) fun _ => ?_
  refine rF_use (rbegin_w hd h n true hn) ?_
  rintro _ H1 ⟨rfl, S1, hd1, hs1⟩
  have hbg := h.begun
  have e1 : Dr.read r n = if (Dr.begin r n true).2.2 ≠ 0 then ((Dr.events r).1, [], (Dr.begin r n true).2.2) else if Dk.has (Dr.events r).1.now n = false then ((Dr.events r).1, [], 6) else ((Dr.events r).1, Dk.data (Dr.events r).1.now n, 0) := rfl
  rw [e1]
  clear e1
  generalize (Dr.begin r n true).2 = q at *
  generalize (Dr.events r).1 = r1 at *
  by_cases h0 : q.2 = 0
  · have hx0 : ¬ (q.2 ≠ 0) := by simpa using h0
    rw [if_neg hx0]
    obtain ⟨pn, ps, pa, pl, hr, hS⟩ := hd1
    have hd1 : RefAt H1 j S1 r1 := ⟨pn, ps, pa, pl, hr, hS⟩
    have hj1 := hr.hj
    have hpx := hr.now.plain
    have hb1 := hbg.used
    have hb2 := hbg.len
    have hdl := Dk.data_le r1.now n
    repeat' first | simp (disch := first | omega | assumption | decide) only [go_sem, hm, hz, ht, hr_, h0, hj1, hpx, wdl, bind_some_, map_some_, oneD_fold] | refine ifP_in (fun _ => ?_) fun _ => ?_
    refine rF_use (find_w r1.now n (by omega)) ?_
    rintro _ H3 ⟨⟨k, rfl, hk⟩, rfl⟩
    have hk1 := has_of hk
    by_cases hk0 : k < 0
    · rw [if_pos (hk1.1 hk0)]
      repeat' first | simp (disch := first | omega | assumption | decide) only [go_sem, hm, hz, ht, hr_, h0, hj1, hpx, wdl, bind_some_, map_some_, oneD_fold] | refine ifP_in (fun _ => ?_) fun _ => ?_
      exact ⟨S1, hd1, hs1⟩
    · have hh : ¬ Dk.has r1.now n = false := fun h => hk0 (hk1.2 h)
      rw [if_neg hh]
      repeat' first | simp (disch := first | omega | assumption | decide) only [go_sem, hm, hz, ht, hr_, h0, hj1, hpx, wdl, bind_some_, map_some_, oneD_fold] | refine ifP_in (fun _ => ?_) fun _ => ?_
      refine rF_use (data_w r1.now n (by omega)) ?_
      rintro _ H4 ⟨rfl, rfl⟩
      repeat' first | simp (disch := first | omega | assumption | decide) only [go_sem, hm, hz, ht, hr_, h0, hj1, hpx, wdl, bind_some_, map_some_, oneD_fold] | refine ifP_in (fun _ => ?_) fun _ => ?_
      refine rF_use (rcopy_w _ (by omega)) ?_
      rintro _ H5 ⟨rfl, rfl⟩
      repeat' first | simp (disch := first | omega | assumption | decide) only [go_sem, hm, hz, ht, hr_, h0, wdl, bind_some_, map_some_, oneD_fold] | refine ifP_in (fun _ => ?_) fun _ => ?_
      exact ⟨S1, hd1, hs1⟩
  · rw [if_pos h0]
    repeat' first | simp (disch := first | omega | assumption | decide) only [go_sem, hm, hz, ht, hr_, wdl, bind_some_, map_some_, oneD_fold] | refine ifP_in (fun _ => ?_) fun _ => ?_
    exact ⟨S1, hd1, hs1⟩
theorem rnames_w {j : Nat} {S : List Nat} {r : Dk.Disk} (hd : RefAt H j S r) (hl : r.now.length ≤ 1000000) :
    WF Tryz.prog cfg 65 [.ptr j 0] H (fun r' H' => r' = .sl ((r.now.map (·.1)).map AV.str) ∧ H' = H) := by
  obtain ⟨pn, ps, pa, pl, hr, rfl⟩ := hd
  have hj := hr.hj
  have hnow := hr.now
  have hm : ∀ d, cfg.muF 65 d = (false) := fun _ => rfl
  have hz : ∀ d, cfg.fzF 65 d = (false) := fun _ => rfl
  have ht : ∀ d, cfg.tkF 65 d = (false) := fun _ => rfl
  have hr_ : ∀ g, cfg.raw g = (g == 68) := fun _ => rfl
  refine rF_fn rfl rfl Tryz.func65 rfl ?_
  have hlen := fun el => hnow.len (el := el)
  repeat' first | simp (disch := first | omega | assumption | decide) only [go_sem, hm, hz, ht, hr_, hj, hlen, wdl, bind_some_, map_some_, oneD_fold] | refine ifP_in (fun _ => ?_) fun _ => ?_
  refine rL_loop (σ := Nat) (fun i e K => K = H ∧ e 0 = .ptr j 0 ∧ e 3 = .sl (((r.now.take i).map (·.1)).map AV.str) ∧ e 4 = .i i ∧ i ≤ r.now.length) (fun i => r.now.length - i) 0 ?_ ?_
  · refine ⟨rfl, ?_, ?_, ?_, by omega⟩
    all_goals first | (simp (disch := first | assumption | omega) only [go_sem]; done) | (simp (disch := first | assumption | omega) only [go_sem]; rfl)
  · rintro i e K ⟨hK, g0, g3, g4, i1⟩
    have hK := hK.symm
    subst hK
    by_cases hil : i < r.now.length
    · rcases hnow with ⟨_, h0⟩ | rfl
      · rw [h0] at hil; simp at hil
      · have hix := ix_at' hil
        have ht1 : ((r.now.take i).map (·.1)).length ≤ 1000000 := by simp; omega
        have hsn : ((r.now.take (i + 1)).map (·.1)) = (r.now.take i).map (·.1) ++ [r.now[i].1] := by rw [List.take_succ_eq_append_getElem hil, List.map_append]; rfl
        repeat' first | simp (disch := first | omega | assumption | decide) only [go_sem, hm, hz, ht, hr_, g0, g3, g4, hj, hlen, hix, cells_fileA, cells_str, wdl, bind_some_, map_some_, oneD_fold] | refine ifP_in (fun _ => ?_) fun _ => ?_
        exact ⟨i + 1, ⟨by rw [hsn], rfl, by omega⟩, by omega⟩
    · have : i = r.now.length := by omega
      subst this
      rw [List.take_length] at g3
      repeat' first | simp (disch := first | omega | assumption | decide) only [go_sem, hm, hz, ht, hr_, g0, g3, g4, hj, hlen, wdl, bind_some_, map_some_, oneD_fold] | refine ifP_in (fun _ => ?_) fun _ => ?_
theorem rlist_w {j : Nat} {S : List Nat} {s r : Dk.Disk} (hd : RefAt H j S r) (h : Can2 s r) :
    WF Tryz.prog cfg 48 [.ptr j 0] H (fun r' H' => r' = .tup [.sl ((Dr.list r).2.1.map AV.str), .i (Dr.list r).2.2] ∧ ∃ S', RefAt H' j S' (Dr.list r).1 ∧ Step H S H' S') := by
  have hm : ∀ d, cfg.muF 48 d = (false) := fun _ => rfl
  have hz : ∀ d, cfg.fzF 48 d = (false) := fun _ => rfl
  have ht : ∀ d, cfg.tkF 48 d = (false) := fun _ => rfl
  have hr_ : ∀ g, cfg.raw g = (g == 68) := fun _ => rfl
  refine rF_fn rfl rfl Tryz.func48 rfl ?_
  have hes : AV.v (.string ByteArray.empty) = AV.str [] := rfl
  repeat' first | simp (disch := first | omega | assumption | decide) only [go_sem, hm, hz, ht, hr_, hes, wdl, bind_some_, map_some_, oneD_fold] | refine ifP_in (fun _ => ?_) fun _ => ?_
  refine rF_use (rbegin_w hd h [] false (by simp)) ?_
  rintro _ H1 ⟨rfl, S1, hd1, hs1⟩
  have hbg := h.begun
  have e1 : Dr.list r = if (Dr.begin r [] false).2.2 ≠ 0 then ((Dr.events r).1, [], (Dr.begin r [] false).2.2) else ((Dr.events r).1, (Dr.events r).1.now.map (·.1), 0) := rfl
  rw [e1]
  clear e1
  generalize (Dr.begin r [] false).2 = q at *
  generalize (Dr.events r).1 = r1 at *
  by_cases h0 : q.2 = 0
  · have hx0 : ¬ (q.2 ≠ 0) := by simpa using h0
    rw [if_neg hx0]
    repeat' first | simp (disch := first | omega | assumption | decide) only [go_sem, hm, hz, ht, hr_, h0, wdl, bind_some_, map_some_, oneD_fold] | refine ifP_in (fun _ => ?_) fun _ => ?_
    refine rF_use (rnames_w hd1 hbg.len) ?_
    rintro _ H3 ⟨rfl, rfl⟩
    repeat' first | simp (disch := first | omega | assumption | decide) only [go_sem, hm, hz, ht, hr_, h0, wdl, bind_some_, map_some_, oneD_fold] | refine ifP_in (fun _ => ?_) fun _ => ?_
    exact ⟨S1, hd1, hs1⟩
  · rw [if_pos h0]
    repeat' first | simp (disch := first | omega | assumption | decide) only [go_sem, hm, hz, ht, hr_, wdl, bind_some_, map_some_, oneD_fold] | refine ifP_in (fun _ => ?_) fun _ => ?_
    exact ⟨S1, hd1, hs1⟩
theorem rpeek_w {j : Nat} {S : List Nat} {r : Dk.Disk} (hd : RefAt H j S r) (hl : r.now.length ≤ 1000000) (hu : Dk.used r.now ≤ 1073741824) (n : Bs) :
    WF Tryz.prog cfg 67 [.ptr j 0, .str n] H (fun r' H' => r' = .tup [.sl ((Dk.data r.now n).map byteA), .b (Dk.has r.now n)] ∧ H' = H) := by
  obtain ⟨pn, ps, pa, pl, hr, rfl⟩ := hd
  have hj := hr.hj
  have hpx := hr.now.plain
  have hdl := Dk.data_le r.now n
  have hm : ∀ d, cfg.muF 67 d = (false) := fun _ => rfl
  have hz : ∀ d, cfg.fzF 67 d = (false) := fun _ => rfl
  have ht : ∀ d, cfg.tkF 67 d = (false) := fun _ => rfl
  have hr_ : ∀ g, cfg.raw g = (g == 68) := fun _ => rfl
  refine rF_fn rfl rfl Tryz.func67 rfl ?_
  repeat' first | simp (disch := first | omega | assumption | decide) only [go_sem, hm, hz, ht, hr_, hj, hpx, wdl, bind_some_, map_some_, oneD_fold] | refine ifP_in (fun _ => ?_) fun _ => ?_
  refine rF_use (data_w r.now n (by omega)) ?_
  rintro _ H1 ⟨rfl, rfl⟩
  repeat' first | simp (disch := first | omega | assumption | decide) only [go_sem, hm, hz, ht, hr_, hj, hpx, wdl, bind_some_, map_some_, oneD_fold] | refine ifP_in (fun _ => ?_) fun _ => ?_
  refine rF_use (rcopy_w _ (by omega)) ?_
  rintro _ H2 ⟨rfl, rfl⟩
  repeat' first | simp (disch := first | omega | assumption | decide) only [go_sem, hm, hz, ht, hr_, hj, hpx, wdl, bind_some_, map_some_, oneD_fold] | refine ifP_in (fun _ => ?_) fun _ => ?_
  refine rF_use (find_w r.now n (by omega)) ?_
  rintro _ H3 ⟨⟨k, rfl, hk⟩, rfl⟩
  have hk1 := has_of hk
  repeat' first | simp (disch := first | omega | assumption | decide) only [go_sem, hm, hz, ht, hr_, hj, hpx, wdl, bind_some_, map_some_, oneD_fold] | refine ifP_in (fun _ => ?_) fun _ => ?_
  by_cases hk0 : k < 0
  · rw [hk1.1 hk0, decide_eq_false (by omega)]
  · have : Dk.has r.now n = true := by
      cases hh : Dk.has r.now n with
      | true => rfl
      | false => exact absurd (hk1.2 hh) hk0
    rw [this, decide_eq_true (by omega)]
theorem rcalls_w {j : Nat} {S : List Nat} {r : Dk.Disk} (hd : RefAt H j S r) : WF Tryz.prog cfg 57 [.ptr j 0] H (fun r' H' => r' = .i r.calls ∧ H' = H) := by
  obtain ⟨pn, ps, pa, pl, hj, _⟩ := hd.cells
  have hm : ∀ d, cfg.muF 57 d = (false) := fun _ => rfl
  have hz : ∀ d, cfg.fzF 57 d = (false) := fun _ => rfl
  have ht : ∀ d, cfg.tkF 57 d = (false) := fun _ => rfl
  have hr_ : ∀ g, cfg.raw g = (g == 68) := fun _ => rfl
  refine rF_fn rfl rfl Tryz.func57 rfl ?_
  repeat' first | simp (disch := first | omega | assumption | decide) only [go_sem, hm, hz, ht, hr_, hj, wdl, bind_some_, map_some_, oneD_fold] | refine ifP_in (fun _ => ?_) fun _ => ?_
theorem rup_w {j : Nat} {S : List Nat} {r : Dk.Disk} (hd : RefAt H j S r) : WF Tryz.prog cfg 63 [.ptr j 0] H (fun r' H' => r' = .b (!r.down) ∧ H' = H) := by
  obtain ⟨pn, ps, pa, pl, hj, _⟩ := hd.cells
  have hm : ∀ d, cfg.muF 63 d = (false) := fun _ => rfl
  have hz : ∀ d, cfg.fzF 63 d = (false) := fun _ => rfl
  have ht : ∀ d, cfg.tkF 63 d = (false) := fun _ => rfl
  have hr_ : ∀ g, cfg.raw g = (g == 68) := fun _ => rfl
  refine rF_fn rfl rfl Tryz.func63 rfl ?_
  repeat' first | simp (disch := first | omega | assumption | decide) only [go_sem, hm, hz, ht, hr_, hj, wdl, bind_some_, map_some_, oneD_fold] | refine ifP_in (fun _ => ?_) fun _ => ?_
theorem rpending_w {j : Nat} {S : List Nat} {r : Dk.Disk} (hd : RefAt H j S r) : WF Tryz.prog cfg 61 [.ptr j 0] H (fun r' H' => r' = .i r.pend.length ∧ H' = H) := by
  obtain ⟨pn, ps, pa, pl, hr, rfl⟩ := hd
  have hj := hr.hj
  have hlen := fun el => hr.pend.len (el := el)
  have hm : ∀ d, cfg.muF 61 d = (false) := fun _ => rfl
  have hz : ∀ d, cfg.fzF 61 d = (false) := fun _ => rfl
  have ht : ∀ d, cfg.tkF 61 d = (false) := fun _ => rfl
  have hr_ : ∀ g, cfg.raw g = (g == 68) := fun _ => rfl
  refine rF_fn rfl rfl Tryz.func61 rfl ?_
  repeat' first | simp (disch := first | omega | assumption | decide) only [go_sem, hm, hz, ht, hr_, hj, hlen, wdl, bind_some_, map_some_, oneD_fold] | refine ifP_in (fun _ => ?_) fun _ => ?_
theorem rusedD_w {j : Nat} {S : List Nat} {r : Dk.Disk} (hd : RefAt H j S r) (hl : r.now.length ≤ 1000000) (hu : Dk.used r.now ≤ 1073741824) : WF Tryz.prog cfg 59 [.ptr j 0] H (fun r' H' => r' = .i (Dk.used r.now) ∧ H' = H) := by
  obtain ⟨pn, ps, pa, pl, hr, rfl⟩ := hd
  have hj := hr.hj
  have hpx := hr.now.plain
  have hm : ∀ d, cfg.muF 59 d = (false) := fun _ => rfl
  have hz : ∀ d, cfg.fzF 59 d = (false) := fun _ => rfl
  have ht : ∀ d, cfg.tkF 59 d = (false) := fun _ => rfl
  have hr_ : ∀ g, cfg.raw g = (g == 68) := fun _ => rfl
  refine rF_fn rfl rfl Tryz.func59 rfl ?_
  repeat' first | simp (disch := first | omega | assumption | decide) only [go_sem, hm, hz, ht, hr_, hj, hpx, wdl, bind_some_, map_some_, oneD_fold] | refine ifP_in (fun _ => ?_) fun _ => ?_
  refine rF_use (rused_w r.now (by omega) (by omega)) ?_
  rintro _ H2 ⟨rfl, rfl⟩
  repeat' first | simp (disch := first | omega | assumption | decide) only [go_sem, hm, hz, ht, hr_, wdl, bind_some_, map_some_, oneD_fold] | refine ifP_in (fun _ => ?_) fun _ => ?_
end Jn
end Go.Proofs
/- Walks: copies of the disk, its names; what is left of the document's. -/
set_option linter.unusedVariables false
set_option linter.unusedSimpArgs false
namespace Go.Proofs
open Go.Lv
namespace Jn
open Dk (Files Bs Ch Ev)
variable {H : Heap}

def dnames (f : Files) : List Bs := (f.map (·.1)).mergeSort leB
theorem names_w {j : Nat} {S : List Nat} {s : Dk.Disk} (hd : DiskAt H j S s) (hl : s.now.length ≤ 1000000) : WF Tryz.prog cfg 64 [.ptr j 0] H (fun r H' => r = .sl ((dnames s.now).map AV.str) ∧ H' = H) := by
  obtain ⟨a, b, pa, pl, hr, rfl⟩ := hd
  refine WF.ext (g := fun args H => namesT H args) rfl (r := .sl ((dnames s.now).map AV.str)) (H' := H) ?_ ⟨rfl, rfl⟩
  show namesT H [.ptr j 0] = _
  have hk : (keysA s.now).all strKey = true := by
    apply List.all_eq_true.2
    intro x hx
    obtain ⟨q, _, rfl⟩ := List.mem_map.1 hx
    rfl
  have hkb : (keysA s.now).map keyB = s.now.map (·.1) := by
    unfold keysA
    rw [List.map_map]
    apply List.map_congr_left
    intro p _
    rfl
  simp only [namesT, hr.hj, Option.bind_some, mapOf_files hr.ha]
  rw [if_pos ⟨hk, by simp [keysA]; omega⟩, hkb]
  rfl
theorem pending_w {j : Nat} {S : List Nat} {s : Dk.Disk} (hd : DiskAt H j S s) : WF Tryz.prog cfg 60 [.ptr j 0] H (fun r H' => r = .i s.pend.length ∧ H' = H) := by
  obtain ⟨a, b, pa, pl, hr, rfl⟩ := hd
  have hj := hr.hj
  have hlen := fun el => hr.pend.len (el := el)
  have hm : ∀ d, cfg.muF 60 d = (false) := fun _ => rfl
  have hz : ∀ d, cfg.fzF 60 d = (false) := fun _ => rfl
  have ht : ∀ d, cfg.tkF 60 d = (false) := fun _ => rfl
  have hr_ : ∀ g, cfg.raw g = (g == 68) := fun _ => rfl
  refine rF_fn rfl rfl Tryz.func60 rfl ?_
  repeat' first | simp (disch := first | omega | assumption | decide) only [go_sem, hm, hz, ht, hr_, hj, hlen, wdl, bind_some_, map_some_, oneD_fold] | refine ifP_in (fun _ => ?_) fun _ => ?_
def dlist (s : Dk.Disk) : Dk.Disk × List Bs × Int :=
  let r := Dk.call s []
  if r.2.2 ≠ 0 then (r.1, [], r.2.2) else (r.1, dnames r.1.now, 0)
theorem list_w {j : Nat} {S : List Nat} {s : Dk.Disk} (hd : DiskAt H j S s) (hc : Can s) (hl : (Dk.events s).1.now.length ≤ 1000000) :
    WF Tryz.prog cfg 47 [.ptr j 0] H (fun r H' => r = .tup [.sl ((dlist s).2.1.map AV.str), .i (dlist s).2.2] ∧ ∃ S', DiskAt H' j S' (dlist s).1 ∧ Step H S H' S') := by
  have hm : ∀ d, cfg.muF 47 d = (false) := fun _ => rfl
  have hz : ∀ d, cfg.fzF 47 d = (false) := fun _ => rfl
  have ht : ∀ d, cfg.tkF 47 d = (false) := fun _ => rfl
  have hr_ : ∀ g, cfg.raw g = (g == 68) := fun _ => rfl
  refine rF_fn rfl rfl Tryz.func47 rfl ?_
  repeat' first | simp (disch := first | omega | assumption | decide) only [go_sem, hm, hz, ht, hr_, wdl, bind_some_, map_some_, oneD_fold] | refine ifP_in (fun _ => ?_) fun _ => ?_
  refine rF_use (call_w hd hc.ok hc.calls hc.plan [] (by simp) (by simp)) ?_
  rintro _ H1 ⟨rfl, S1, hd1, hs1⟩
  unfold dlist
  have hcs : (Dk.call s []).1 = (Dk.events s).1 := rfl
  rw [← hcs] at hl
  generalize Dk.call s [] = r at *
  by_cases h0 : r.2.2 = 0
  · rw [if_neg (by rw [h0]; simp)]
    repeat' first | simp (disch := first | omega | assumption | decide) only [go_sem, hm, hz, ht, hr_, h0, wdl, bind_some_, map_some_, oneD_fold] | refine ifP_in (fun _ => ?_) fun _ => ?_
    refine rF_use (names_w hd1 hl) ?_
    rintro _ H2 ⟨rfl, rfl⟩
    repeat' first | simp (disch := first | omega | assumption | decide) only [go_sem, hm, hz, ht, hr_, h0, wdl, bind_some_, map_some_, oneD_fold] | refine ifP_in (fun _ => ?_) fun _ => ?_
    exact ⟨S1, hd1, hs1⟩
  · rw [if_pos h0]
    repeat' first | simp (disch := first | omega | assumption | decide) only [go_sem, hm, hz, ht, hr_, wdl, bind_some_, map_some_, oneD_fold] | refine ifP_in (fun _ => ?_) fun _ => ?_
    exact ⟨S1, hd1, hs1⟩

/-! ### What is left of the document's disk -/
theorem ref_set {j : Nat} {pn ps pa pl : AV} {r r' : Dk.Disk} (hr : RefR H j pn ps pa pl r) (h1 : r'.now = r.now) (h2 : r'.dur = r.dur) (h3 : r'.pend = r.pend) (h4 : r'.plan = r.plan) :
    RefAt (H.set j [.i r'.room, pn, ps, pa, pl, .i r'.calls, .b r'.down]) j (j :: (tokP pa ++ tokP pl)) r' ∧ Step H (j :: (tokP pa ++ tokP pl)) (H.set j [.i r'.room, pn, ps, pa, pl, .i r'.calls, .b r'.down]) (j :: (tokP pa ++ tokP pl)) := by
  have hjl : j < H.length := (List.getElem?_eq_some_iff.1 hr.hj).1
  have hne : ∀ {α : Type} {f : α → AV} {k : Nat} {a : AV} {xs : List α}, TokOf f k 0 H a xs → TokOf f k 0 (H.set j [.i r'.room, pn, ps, pa, pl, .i r'.calls, .b r'.down]) a xs := by
    intro α f k a xs h
    rcases h with h | ⟨k', q1, rfl, q3, q4⟩
    · exact .inl h
    · have hjk : j ≠ k' := by rintro rfl; have := hr.hj; rw [q3] at this; cases this
      exact .inr ⟨k', q1, rfl, by rw [get_set_ne_ hjk]; exact q3, q4⟩
  exact ⟨⟨pn, ps, pa, pl, ⟨get_set hjl, by rw [h1]; exact hr.now, by rw [h2]; exact hr.sure, by rw [h3]; exact hne hr.pend, by rw [h4]; exact hne hr.plan, hr.apart⟩, rfl⟩, Step.set_in (by simp) _⟩
theorem rreboot_w {j : Nat} {S : List Nat} {r : Dk.Disk} (hd : RefAt H j S r) : WF Tryz.prog cfg 52 [.ptr j 0] H (fun r' H' => r' = .tup [] ∧ ∃ S', RefAt H' j S' { r with down := false } ∧ Step H S H' S') := by
  obtain ⟨pn, ps, pa, pl, hr, rfl⟩ := hd
  have hj := hr.hj
  have hm : ∀ d, cfg.muF 52 d = (false) := fun _ => rfl
  have hz : ∀ d, cfg.fzF 52 d = (false) := fun _ => rfl
  have ht : ∀ d, cfg.tkF 52 d = (false) := fun _ => rfl
  have hr_ : ∀ g, cfg.raw g = (g == 68) := fun _ => rfl
  refine rF_fn rfl rfl Tryz.func52 rfl ?_
  repeat' first | simp (disch := first | omega | assumption | decide) only [go_sem, hm, hz, ht, hr_, hj, wdl, bind_some_, map_some_, oneD_fold] | refine ifP_in (fun _ => ?_) fun _ => ?_
  obtain ⟨h1, h2⟩ := ref_set (r' := { r with down := false }) hr rfl rfl rfl rfl
  exact ⟨_, h1, h2⟩
theorem rresize_w {j : Nat} {S : List Nat} {r : Dk.Disk} (hd : RefAt H j S r) (room : Int) : WF Tryz.prog cfg 56 [.ptr j 0, .i room] H (fun r' H' => r' = .b (decide (0 ≤ room ∧ room ≤ 1073741824)) ∧ ∃ S', RefAt H' j S' (if 0 ≤ room ∧ room ≤ 1073741824 then { r with room := room } else r) ∧ Step H S H' S') := by
  obtain ⟨pn, ps, pa, pl, hr, rfl⟩ := hd
  have hj := hr.hj
  have hm : ∀ d, cfg.muF 56 d = (false) := fun _ => rfl
  have hz : ∀ d, cfg.fzF 56 d = (false) := fun _ => rfl
  have ht : ∀ d, cfg.tkF 56 d = (false) := fun _ => rfl
  have hr_ : ∀ g, cfg.raw g = (g == 68) := fun _ => rfl
  refine rF_fn rfl rfl Tryz.func56 rfl ?_
  by_cases h0 : room < 0
  · repeat' first | simp (disch := first | omega | assumption | decide) only [go_sem, hm, hz, ht, hr_, hj, wdl, bind_some_, map_some_, oneD_fold] | refine ifP_in (fun _ => ?_) fun _ => ?_
    rw [decide_eq_false (by omega), if_neg (by omega)]
    exact ⟨rfl, _, ⟨pn, ps, pa, pl, hr, rfl⟩, Step.refl _ _⟩
  · by_cases h1 : 1073741824 < room
    · repeat' first | simp (disch := first | omega | assumption | decide) only [go_sem, hm, hz, ht, hr_, hj, wdl, bind_some_, map_some_, oneD_fold] | refine ifP_in (fun _ => ?_) fun _ => ?_
      rw [decide_eq_false (by omega), if_neg (by omega)]
      exact ⟨rfl, _, ⟨pn, ps, pa, pl, hr, rfl⟩, Step.refl _ _⟩
    · repeat' first | simp (disch := first | omega | assumption | decide) only [go_sem, hm, hz, ht, hr_, hj, wdl, bind_some_, map_some_, oneD_fold] | refine ifP_in (fun _ => ?_) fun _ => ?_
      obtain ⟨h1, h2⟩ := ref_set (r' := { r with room := room }) hr rfl rfl rfl rfl
      rw [decide_eq_true (by omega), if_pos (by omega)]
      exact ⟨rfl, _, h1, h2⟩
theorem rnew_bad (room : Int) (hg : ¬ (0 ≤ room ∧ room ≤ 1073741824)) : WF Tryz.prog cfg 7 [.i room] H (fun r H' => r = .tup [.v (.pointer none), .i 1] ∧ H' = H) := by
  have hm : ∀ d, cfg.muF 7 d = (false) := fun _ => rfl
  have hz : ∀ d, cfg.fzF 7 d = (false) := fun _ => rfl
  have ht : ∀ d, cfg.tkF 7 d = (false) := fun _ => rfl
  have hr_ : ∀ g, cfg.raw g = (g == 68) := fun _ => rfl
  refine rF_fn rfl rfl Tryz.func7 rfl ?_
  by_cases h0 : room < 0
  · repeat' first | simp (disch := first | omega | assumption | decide) only [go_sem, hm, hz, ht, hr_, wdl, bind_some_, map_some_, oneD_fold] | refine ifP_in (fun _ => ?_) fun _ => ?_
  · repeat' first | simp (disch := first | omega | assumption | decide) only [go_sem, hm, hz, ht, hr_, wdl, bind_some_, map_some_, oneD_fold] | refine ifP_in (fun _ => ?_) fun _ => ?_
theorem rnew_w (room : Int) (hg : 0 ≤ room ∧ room ≤ 1073741824) : WF Tryz.prog cfg 7 [.i room] H (fun r H' => r = .tup [.ptr H.length 0, .i 0] ∧ RefAt H' H.length [H.length] ⟨room, [], [], [], [], 0, false⟩ ∧ H <+: H') := by
  have hm : ∀ d, cfg.muF 7 d = (false) := fun _ => rfl
  have hz : ∀ d, cfg.fzF 7 d = (false) := fun _ => rfl
  have ht : ∀ d, cfg.tkF 7 d = (false) := fun _ => rfl
  have hr_ : ∀ g, cfg.raw g = (g == 68) := fun _ => rfl
  refine rF_fn rfl rfl Tryz.func7 rfl ?_
  repeat' first | simp (disch := first | omega | assumption | decide) only [go_sem, hm, hz, ht, hr_, onlyD_one, wdl, bind_some_, map_some_, oneD_fold] | refine ifP_in (fun _ => ?_) fun _ => ?_
  exact ⟨⟨nilA, nilA, nilA, nilA, ⟨get_end_ _, .inl ⟨rfl, rfl⟩, .inl ⟨rfl, rfl⟩, TokOf.nil, TokOf.nil, by simp [tokP_nil]⟩, rfl⟩, List.prefix_append _ _⟩
theorem rplan_w {j : Nat} {S : List Nat} {r : Dk.Disk} (hd : RefAt H j S r) (l : List Ev) (hl : l.length ≤ 1000000) : WF Tryz.prog cfg 53 [.ptr j 0, .sl (l.map evA)] H (fun r' H' => r' = .tup [] ∧ ∃ S', RefAt H' j S' (Dr.plan r l) ∧ Step H S H' S') := by
  obtain ⟨pn, ps, pa, pl, hr, rfl⟩ := hd
  have hj := hr.hj
  have hjl : j < H.length := (List.getElem?_eq_some_iff.1 hj).1
  have hm : ∀ d, cfg.muF 53 d = (false) := fun _ => rfl
  have hz : ∀ d, cfg.fzF 53 d = (false) := fun _ => rfl
  have ht : ∀ d, cfg.tkF 53 d = (d == 34) := fun _ => rfl
  have hr_ : ∀ g, cfg.raw g = (g == 68) := fun _ => rfl
  refine rF_fn rfl rfl Tryz.func53 rfl ?_
  repeat' first | simp (disch := first | omega | assumption | decide) only [go_sem, hm, hz, ht, hr_, hj, wdl, bind_some_, map_some_, oneD_fold] | refine ifP_in (fun _ => ?_) fun _ => ?_
  have hne : ∀ (cs : List AV), TokOf opC 4 0 (H.set j cs) pa r.pend := by
    intro cs
    rcases hr.pend with h | ⟨k', q1, rfl, q3, q4⟩
    · exact .inl h
    · have hjk : j ≠ k' := by rintro rfl; have := hr.hj; rw [q3] at this; cases this
      exact .inr ⟨k', q1, rfl, by rw [get_set_ne_ hjk]; exact q3, q4⟩
  have hd1 : RefAt (H.set j [.i r.room, pn, ps, pa, nilA, .i r.calls, .b r.down]) j (j :: (tokP pa ++ tokP nilA)) { r with plan := [] } := ⟨pn, ps, pa, nilA, ⟨get_set hjl, hr.now, hr.sure, hne _, TokOf.nil, by simp [tokP_nil]⟩, rfl⟩
  have hs1 : Step H (j :: (tokP pa ++ tokP pl)) (H.set j [.i r.room, pn, ps, pa, nilA, .i r.calls, .b r.down]) (j :: (tokP pa ++ tokP nilA)) := by
    refine ⟨by simp, fun i hi hS => by rw [get_set_ne_ (fun e => hS (by simp [e]))], fun x hx => ?_⟩
    rw [tokP_nil, List.append_nil] at hx
    left
    simp only [List.mem_cons, List.mem_append]
    rcases List.mem_cons.1 hx with h | h
    · exact .inl h
    · exact .inr (.inl h)
  generalize H.set j [.i r.room, pn, ps, pa, nilA, .i r.calls, .b r.down] = H1 at *
  refine rL_loop (σ := Nat) (fun i e K => e 0 = .ptr j 0 ∧ e 1 = .sl (l.map evA) ∧ e 4 = .i i ∧ i ≤ l.length ∧ ∃ S', RefAt K j S' { r with plan := (l.take i).filter fun e => decide (r.calls < e.at_) } ∧ Step H (j :: (tokP pa ++ tokP pl)) K S') (fun i => l.length - i) 0 ?_ ?_
  · refine ⟨?_, ?_, ?_, by omega, _, hd1, hs1⟩
    all_goals first | (simp (disch := first | assumption | omega) only [go_sem]; done) | (simp (disch := first | assumption | omega) only [go_sem]; rfl)
  · rintro i e K ⟨g0, g1, g4, i1, S', hdk, hsk⟩
    by_cases hil : i < l.length
    · have hix := ix_at' hil
      have hsn : (l.take (i + 1)).filter (fun e => decide (r.calls < e.at_)) = (l.take i).filter (fun e => decide (r.calls < e.at_)) ++ (if r.calls < l[i].at_ then [l[i]] else []) := by
        rw [List.take_succ_eq_append_getElem hil, List.filter_append]
        congr 1
        by_cases h : r.calls < l[i].at_
        · rw [List.filter_cons_of_pos (by simpa using h), if_pos h]; rfl
        · rw [List.filter_cons_of_neg (by simpa using h), if_neg h]; rfl
      have hfl := List.length_filter_le (fun e : Ev => decide (r.calls < e.at_)) (l.take i)
      simp only [List.length_take] at hfl
      have hlt := hdk.lt
      obtain ⟨pn, ps, pa, pl, hr', rfl⟩ := hdk
      have kj := hr'.hj
      have hx : ((evA l[i]).cells) = [AV.i l[i].at_, AV.i l[i].kind, AV.i l[i].keep, AV.i l[i].torn] := rfl
      have hagg : AV.agg [AV.i l[i].at_, AV.i l[i].kind, AV.i l[i].keep, AV.i l[i].torn] = evA l[i] := rfl
      have hck := cellsOK_of (f := evA) (n := 4) l[i]
      generalize l[i] = x at *
      repeat' first | simp (disch := first | omega | assumption | decide) only [go_sem, hm, hz, ht, hr_, g0, g1, g4, kj, hix, hx, hagg, hck, wdl, bind_some_, map_some_, oneD_fold] | refine ifP_in (fun _ => ?_) fun _ => ?_
      · rename_i hlt2
        have hjt : j ∉ tokP pl := fun h => by
          rcases hr'.plan with ⟨rfl, _⟩ | ⟨k', q1, rfl, q3, q4⟩
          · simp [tokP_nil] at h
          · simp only [tokP, List.mem_singleton] at h; subst h; rw [kj] at q3; cases q3
        refine bind_appendF (f := evA) (ys := [x]) hr'.plan (by omega) rfl (by simp) (by simp; omega) ?_
        intro a' H4 hp4 hs4 hl4 ht4 ho4
        have hj4 : H4[j]? = some [.i r.room, pn, ps, pa, pl, .i r.calls, .b r.down] := by rw [hs4 j (hlt j (by simp)) hjt]; exact kj
        have hst : ∀ cs, storeC Tryz.prog 68 H4 j (0 + 4) a' cs = storeS H4 j (0 + 4) a' cs := fun cs => storeC_one ho4.1 ho4.2
        have hst2 : ∀ cs, storeC Tryz.prog 68 H4 j 4 a' cs = storeS H4 j 4 a' cs := fun cs => storeC_one ho4.1 ho4.2
        repeat' first | simp (disch := first | omega | assumption | decide) only [go_sem, hm, hz, ht, hr_, g0, g1, g4, hj4, hst, hst2, hx, hagg, wdl, bind_some_, map_some_, oneD_fold] | refine ifP_in (fun _ => ?_) fun _ => ?_
        refine ⟨Or.inl (by decide +kernel), ?_⟩
        have hKj : K.length ≠ j := by have := hlt j (by simp); omega
        refine ⟨i + 1, ⟨rfl, by omega, j :: (tokP pa ++ tokP a'), ⟨pn, ps, pa, a', ⟨get_set (by have := hlt j (by simp); omega), hr'.now, hr'.sure, ?_, ?_, ?_⟩, rfl⟩, hsk.trans ⟨by simp; omega, fun z hz2 hS => ?_, fun z hz2 => ?_⟩⟩, by omega⟩
        · rcases hr'.pend with h | ⟨k', q1, rfl, q3, q4⟩
          · exact .inl h
          · have hjk : j ≠ k' := by rintro rfl; rw [kj] at q3; cases q3
            have hk2 : k' ∉ tokP pl := hr'.apart k' (by simp [tokP])
            exact .inr ⟨k', q1, rfl, by rw [get_set_ne_ hjk, hs4 k' (List.getElem?_eq_some_iff.1 q3).1 hk2]; exact q3, q4⟩
        · show TokOf evA 4 0 _ a' ((l.take (i + 1)).filter _)
          rw [hsn, if_pos hlt2]
          rcases hp4 with ⟨_, h⟩ | ⟨k, h1, rfl, h3, h4⟩
          · simp at h
          · refine .inr ⟨k, h1, rfl, ?_, h4⟩
            have : k = K.length := by simpa [tokP] using ht4
            rw [get_set_ne_ (by omega)]; exact h3
        · intro y hy hy2
          rw [ht4] at hy2
          obtain rfl := List.mem_singleton.1 hy2
          have := hlt K.length (by simp [hy])
          omega
        · simp only [List.mem_cons, List.mem_append, not_or] at hS
          rw [get_set_ne_ (fun h => hS.1 h.symm), hs4 z hz2 hS.2.2]
        · rw [ht4] at hz2
          simp only [List.mem_cons, List.mem_append, List.not_mem_nil, or_false] at hz2 ⊢
          rcases hz2 with h | h | rfl
          · exact .inl (.inl h)
          · exact .inl (.inr (.inl h))
          · exact .inr (Nat.le_refl _)
      · rename_i hlt2
        exact ⟨i + 1, ⟨rfl, by omega, _, by rw [hsn, if_neg hlt2, List.append_nil]; exact ⟨pn, ps, pa, pl, hr', rfl⟩, hsk⟩, by omega⟩
    · have : i = l.length := by omega
      subst this
      rw [List.take_length] at hdk
      repeat' first | simp (disch := first | omega | assumption | decide) only [go_sem, hm, hz, ht, hr_, g0, g1, g4, wdl, bind_some_, map_some_, oneD_fold] | refine ifP_in (fun _ => ?_) fun _ => ?_
      exact ⟨S', hdk, hsk⟩
end Jn
end Go.Proofs
