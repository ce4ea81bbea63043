/- A value semantics of the loaded code, its soundness, and walks through functions over it. -/
import Derived.Test.YticlhjamafdmfaaJlSpec
/-! What a log keeps, in plain Lean. -/
set_option linter.unusedVariables false
set_option linter.unusedSimpArgs false
namespace Jl
open Dk (Disk Bs Files Ch Ev)
def LOG : Bs := [108, 111, 103]
def fl : Option Bs → Files
  | none => []
  | some b => [(LOG, b)]
def FR : Bs := fresh LOG
theorem FR_eq : fresh LOG = FR := rfl
theorem ne_FR : LOG ≠ FR := by decide
theorem name_LOG : Dk.nameOk LOG = true := by decide
theorem name_FR : Dk.nameOk FR = true := by decide
theorem get_LOG (x : Option Bs) : Dk.get (fl x) LOG = x := by cases x <;> simp [fl, Dk.get]
theorem data_LOG (x : Option Bs) : Dk.data (fl x) LOG = x.getD [] := by unfold Dk.data; rw [get_LOG]
theorem get_FR (x : Option Bs) : Dk.get (fl x) FR = none := by cases x <;> simp [fl, Dk.get, ne_FR.symm]
theorem set_LOG (x : Option Bs) (b : Bs) : Dk.set (fl x) LOG b = fl (some b) := by cases x <;> simp [fl, Dk.set]
theorem used_fl (x : Option Bs) : Dk.used (fl x) = (x.getD []).length := by cases x <;> simp [fl, Dk.used]
theorem call_calm {s : Disk} (h1 : s.plan = []) (h2 : s.down = false) (ns : List Bs) (h3 : ns.all Dk.nameOk = true) : Dk.call s ns = ({ s with calls := s.calls + 1 }, false, 0) := by
  have : Dk.events s = ({ s with calls := s.calls + 1 }, false, false) := by unfold Dk.events; rw [h1]; rfl
  unfold Dk.call
  rw [this]
  simp [h2, h3]
/-- A disk that is up, with nothing planned, and the log's file alone. -/
structure Calm (s : Disk) (x : Option Bs) : Prop where
  ok : Dk.Ok s
  plan : s.plan = []
  down : s.down = false
  pend : s.pend = []
  now : s.now = fl x
  dur : s.dur = fl x
  room : s.room = 1073741824

theorem read_calm {s : Disk} {x : Option Bs} (h : Calm s x) : Dk.read s LOG = ({ s with calls := s.calls + 1 }, x.getD [], if x.isSome = true then 0 else 6) := by
  unfold Dk.read
  rw [call_calm h.plan h.down [LOG] (by simp [name_LOG])]
  simp only [h.now, get_LOG]
  cases x <;> simp
theorem Calm.call {s : Disk} {x : Option Bs} (h : Calm s x) : Calm { s with calls := s.calls + 1 } x := ⟨h.ok.more, h.plan, h.down, h.pend, h.now, h.dur, h.room⟩
theorem delete_calm {s : Disk} {x : Option Bs} (h : Calm s x) : Dk.delete s FR = ({ s with calls := s.calls + 1 }, 6) := by
  unfold Dk.delete
  rw [call_calm h.plan h.down [FR] (by simp [name_FR])]
  simp [h.now, Dk.has, get_FR]
def fl2 (x : Option Bs) (b : Bs) : Files := Dk.set (fl x) FR b
theorem fl2_move (x : Option Bs) (b : Bs) : Dk.make (fl2 x b) ⟨LOG, FR, [], false, false⟩ = fl (some b) := by
  have hf : FR ≠ [] := by decide
  unfold Dk.make fl2
  simp only [Bool.false_eq_true, if_false, if_pos hf]
  cases x with
  | none => simp [fl, Dk.set, Dk.del, Dk.data, Dk.get]
  | some c => simp [fl, Dk.set, Dk.del, Dk.data, Dk.get, ne_FR.symm]
theorem fl2_has (x : Option Bs) (b : Bs) : Dk.has (fl2 x b) FR = true := by
  unfold fl2
  cases x with
  | none => simp [fl, Dk.set, Dk.has, Dk.get]
  | some c => simp [fl, Dk.set, Dk.has, Dk.get, ne_FR.symm]
theorem renew_calm {s : Disk} {x : Option Bs} (h : Calm s x) (l : Log) (hl : l.bad = false) (ps : List Bs) (hp : ∀ p ∈ ps, p.length ≤ 60000) (hx : (x.getD []).length + (Jr.frames ps).length ≤ 1000000) :
    ∃ s', renew s LOG l ps = (s', { l with recs := ps }, 0) ∧ Calm s' (some (Jr.frames ps)) := by
  have hfit : ps.all (fun p => decide (p.length ≤ 60000)) = true := by
    rw [List.all_eq_true]; intro p hm; simpa using hp p hm
  have hw : Dk.write s FR (Jr.frames ps) = ({ s with calls := s.calls + 1, now := fl2 x (Jr.frames ps), pend := [⟨FR, [], Jr.frames ps, true, false⟩] }, 0) := by
    unfold Dk.write
    rw [call_calm h.plan h.down [FR] (by simp [name_FR])]
    have hd : Dk.data (fl x) FR = [] := by unfold Dk.data; rw [get_FR]; rfl
    simp only [h.now, hd, ne_eq, not_true, if_false]
    unfold Dk.lay
    rw [if_neg]
    · simp only [Dk.does, h.now, h.pend, List.nil_append, fl2]
      congr 1
    · rintro (h' | h')
      · cases h'
      · simp only [h.now, h.room, used_fl, List.length_nil] at h'
        omega
  have k1 := Dk.Keeps.write h.ok FR (Jr.frames ps)
  rw [hw] at k1
  obtain ⟨s1, hs1⟩ : ∃ s1 : Disk, s1 = { s with calls := s.calls + 1, now := fl2 x (Jr.frames ps), pend := [⟨FR, [], Jr.frames ps, true, false⟩] } := ⟨_, rfl⟩
  rw [← hs1] at hw k1
  have hy : Dk.sync s1 = ({ s1 with calls := s1.calls + 1, dur := fl2 x (Jr.frames ps), pend := [] }, 0) := by
    unfold Dk.sync
    rw [call_calm (by rw [hs1]; exact h.plan) (by rw [hs1]; exact h.down) [] rfl]
    simp [hs1]
  have k2 := Dk.Keeps.sync k1.ok
  rw [hy] at k2
  obtain ⟨s2, hs2⟩ : ∃ s2 : Disk, s2 = { s1 with calls := s1.calls + 1, dur := fl2 x (Jr.frames ps), pend := [] } := ⟨_, rfl⟩
  rw [← hs2] at hy k2
  have hv : Dk.rename s2 FR LOG = ({ s2 with calls := s2.calls + 1, now := fl (some (Jr.frames ps)), pend := [⟨LOG, FR, [], false, false⟩] }, 0) := by
    unfold Dk.rename
    rw [call_calm (by rw [hs2, hs1]; exact h.plan) (by rw [hs2, hs1]; exact h.down) [FR, LOG] (by simp [name_FR, name_LOG])]
    have hn2 : s2.now = fl2 x (Jr.frames ps) := by rw [hs2, hs1]
    have hp2 : s2.pend = [] := by rw [hs2]
    simp only [hn2, fl2_has, ne_eq, not_true, if_false, ne_FR.symm, Dk.does, fl2_move, hp2, List.nil_append, Bool.true_eq_false, reduceCtorEq]
  have k3 := Dk.Keeps.rename k2.ok FR LOG
  rw [hv] at k3
  obtain ⟨s3, hs3⟩ : ∃ s3 : Disk, s3 = { s2 with calls := s2.calls + 1, now := fl (some (Jr.frames ps)), pend := [⟨LOG, FR, [], false, false⟩] } := ⟨_, rfl⟩
  rw [← hs3] at hv k3
  have hz : Dk.sync s3 = ({ s3 with calls := s3.calls + 1, dur := fl (some (Jr.frames ps)), pend := [] }, 0) := by
    unfold Dk.sync
    rw [call_calm (by rw [hs3, hs2, hs1]; exact h.plan) (by rw [hs3, hs2, hs1]; exact h.down) [] rfl]
    simp [hs3]
  have k4 := Dk.Keeps.sync k3.ok
  rw [hz] at k4
  obtain ⟨s4, hs4⟩ : ∃ s4 : Disk, s4 = { s3 with calls := s3.calls + 1, dur := fl (some (Jr.frames ps)), pend := [] } := ⟨_, rfl⟩
  rw [← hs4] at hz k4
  refine ⟨s4, ?_, ⟨k4.ok, ?_, ?_, ?_, ?_, ?_, ?_⟩⟩
  · unfold renew
    rw [if_neg (by rw [hl]; simp), if_neg (by rw [hfit]; simp)]
    have t1 : then_ (Dk.write s (fresh LOG) (Jr.frames ps)) Dk.sync = (s2, 0) := by unfold then_; rw [FR_eq, hw]; simp [hy]
    have t2 : then_ (Dk.rename s2 (fresh LOG) LOG) Dk.sync = (s4, 0) := by unfold then_; rw [FR_eq, hv]; simp [hz]
    simp [t1, t2]
  · rw [hs4, hs3, hs2, hs1]; exact h.plan
  · rw [hs4, hs3, hs2, hs1]; exact h.down
  · rw [hs4]
  · rw [hs4, hs3]
  · rw [hs4]
  · rw [hs4, hs3, hs2, hs1]; exact h.room

/-- Opening a log where nothing falls. -/
theorem open_calm {s : Disk} {x : Option Bs} (h : Calm s x) (hx : (x.getD []).length ≤ 400000) :
    ∃ s' x', open_ s LOG = (s', some ⟨(Jr.scan (x.getD [])).1, false⟩, 0) ∧ Calm s' x' ∧ (Jr.scan (x'.getD [])).1 = (Jr.scan (x.getD [])).1 ∧ (x'.getD []).length ≤ (x.getD []).length := by
  have hr := read_calm h
  have hgo : ¬ ((Dk.read s LOG).2.2 ≠ 0 ∧ (Dk.read s LOG).2.2 ≠ 6) := by
    rw [hr]; simp only
    cases x <;> simp
  obtain ⟨e1, e2, e3⟩ := Jr.scan_end (x.getD [])
  have tail : ∀ (s' : Disk) (x' : Option Bs) (l : Log), Calm s' x' → openTail s' LOG l = ({ s' with calls := s'.calls + 1 }, some l, 0) := by
    intro s' x' l hc
    unfold openTail
    rw [FR_eq, delete_calm hc]
    simp
  by_cases he : (Jr.scan (x.getD [])).2 < (x.getD []).length
  · obtain ⟨s1, h1, h2⟩ := renew_calm h.call ⟨(Jr.scan (x.getD [])).1, false⟩ rfl (Jr.scan (x.getD [])).1 e3 (by omega)
    refine ⟨{ s1 with calls := s1.calls + 1 }, _, ?_, h2.call, ?_, ?_⟩
    · rw [open_renew hgo (by rw [hr]; exact he) (by rw [hr]; simp only; rw [h1])]
      rw [hr]
      simp only
      rw [h1]
      simp only
      rw [tail s1 _ _ h2]
    · simp only [Option.getD_some]
      rw [Jr.scan_all _ e3]
    · simp only [Option.getD_some]; omega
  · refine ⟨{ s with calls := s.calls + 1 + 1 }, x, ?_, h.call.call, rfl, Nat.le_refl _⟩
    rw [open_plain hgo (by rw [hr]; exact he), hr]
    simp only
    rw [tail _ _ _ h.call]
end Jl
