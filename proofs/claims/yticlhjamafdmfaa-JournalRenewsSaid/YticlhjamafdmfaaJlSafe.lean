/- A value semantics of the loaded code, its soundness, and walks through functions over it. -/
import Derived.Test.YticlhjamafdmfaaJlLaw
/-! What was appended stays, in plain Lean. -/
set_option linter.unusedVariables false
set_option linter.unusedSimpArgs false
namespace Jl
open Dk (Disk Bs Files Ch Ev)
/-- Nothing pending; the log's file alone; nothing breaks. -/
structure Rest (s : Disk) (x : Option Bs) : Prop where
  ok : Dk.Ok s
  pend : s.pend = []
  now : s.now = fl x
  dur : s.dur = fl x
  plan : ∀ e ∈ s.plan, e.kind ≠ 3

theorem crash_calls' (s : Disk) (k t c : Int) : Dk.crash { s with calls := c } k t = { Dk.crash s k t with calls := c } := by
  unfold Dk.crash
  split <;> rfl
theorem crash_down {s : Disk} (h : s.down = true) (k t : Int) : Dk.crash s k t = s := by unfold Dk.crash; rw [if_pos h]
theorem crash_up {s : Disk} (h : s.down = false) (k t : Int) : Dk.crash s k t = { s with now := Dk.fallen s k t, dur := Dk.fallen s k t, pend := [], down := true } := by unfold Dk.crash; rw [if_neg (by rw [h]; simp)]
theorem crash_down' (s : Disk) (k t : Int) : (Dk.crash s k t).down = true := by
  cases h : s.down with
  | true => rw [crash_down h]; exact h
  | false => rw [crash_up h]
theorem events_any {s : Disk} (hb : ∀ e ∈ s.plan, e.kind ≠ 3) : (Dk.events s).2.2 = false ∧ ((Dk.events s).1 = { s with calls := s.calls + 1 } ∨ ∃ k t, (Dk.events s).1 = { Dk.crash s k t with calls := s.calls + 1 }) := by
  have key : ∀ (l : List Ev) (st : Disk × Bool × Bool), (∀ e ∈ l, e.kind ≠ 3) → st.2.2 = false → (st.1 = { s with calls := s.calls + 1 } ∨ ∃ k t, st.1 = Dk.crash { s with calls := s.calls + 1 } k t) →
      (l.foldl Dk.evStep st).2.2 = false ∧ ((l.foldl Dk.evStep st).1 = { s with calls := s.calls + 1 } ∨ ∃ k t, (l.foldl Dk.evStep st).1 = Dk.crash { s with calls := s.calls + 1 } k t) := by
    intro l
    induction l with
    | nil => intro st _ h1 h2; exact ⟨h1, h2⟩
    | cons e l ih =>
      intro st hl h1 h2
      rw [List.foldl_cons]
      refine ih _ (fun x hx => hl x (by simp [hx])) ?_ ?_
      · unfold Dk.evStep
        split
        · exact h1
        · split
          · exact h1
          · split
            · exact h1
            · rw [if_neg (hl e (by simp))]; exact h1
      · unfold Dk.evStep
        split
        · exact h2
        · split
          · right
            rcases h2 with h2 | ⟨k, t, h2⟩
            · exact ⟨e.keep, e.torn, by simp only; rw [h2]⟩
            · exact ⟨k, t, by simp only; rw [h2, crash_down (crash_down' _ _ _)]⟩
          · split
            · exact h2
            · rw [if_neg (hl e (by simp))]; exact h2
  obtain ⟨h1, h2⟩ := key s.plan ({ s with calls := s.calls + 1 }, false, false) hb rfl (.inl rfl)
  refine ⟨h1, ?_⟩
  rcases h2 with h2 | ⟨k, t, h2⟩
  · exact .inl h2
  · exact .inr ⟨k, t, by unfold Dk.events; rw [h2, crash_calls']⟩
theorem fallen_rest {s : Disk} {x : Option Bs} (h : Rest s x) (k t : Int) : Dk.fallen s k t = fl x := by
  unfold Dk.fallen
  rw [h.pend, h.dur]; simp
theorem make_app (x : Option Bs) (f : Bs) : Dk.make (fl x) ⟨LOG, [], f, false, true⟩ = fl (some (x.getD [] ++ f)) := by
  unfold Dk.make
  simp [data_LOG, set_LOG]
theorem fallen_app {s : Disk} {x : Option Bs} {f : Bs} (hd : s.dur = fl x) (hp : s.pend = [⟨LOG, [], f, false, true⟩]) (k t : Int) : Dk.fallen s k t = fl x ∨ ∃ m, Dk.fallen s k t = fl (some (x.getD [] ++ f.take m)) := by
  unfold Dk.fallen
  have hk : Dk.kept s k = 0 ∨ Dk.kept s k = 1 := by
    unfold Dk.kept
    rw [hp]
    simp only [List.length_singleton]
    omega
  rcases hk with hk | hk
  · rw [hk, hp, hd]
    simp only [List.take_zero, List.foldl_nil, List.getElem?_cons_zero]
    cases htn : Dk.torn ⟨LOG, [], f, false, true⟩ t with
    | none => exact .inl rfl
    | some c =>
      right
      unfold Dk.torn at htn
      split at htn
      · cases htn
      · injection htn with htn
        subst htn
        exact ⟨t.toNat, make_app x _⟩
  · rw [hk, hp, hd]
    right
    refine ⟨f.length, ?_⟩
    simp [make_app]

theorem Rest.more {s : Disk} {x : Option Bs} (h : Rest s x) : Rest { s with calls := s.calls + 1 } x := ⟨h.ok.more, h.pend, h.now, h.dur, h.plan⟩
/-- A call where nothing is pending: nothing, or it falls. -/
theorem call_rest {s : Disk} {x : Option Bs} (h : Rest s x) (hd : s.down = false) (ns : List Bs) (hn : ns.all Dk.nameOk = true) :
    ((Dk.call s ns).1 = { s with calls := s.calls + 1 } ∧ (Dk.call s ns).2.2 = 0) ∨ ((Dk.call s ns).1 = { s with calls := s.calls + 1, down := true } ∧ (Dk.call s ns).2.2 = 9) := by
  obtain ⟨h1, h2⟩ := events_any h.plan
  rcases h2 with h2 | ⟨k, t, h2⟩
  · left
    refine ⟨h2, ?_⟩
    unfold Dk.call
    simp only [h1, hn]
    rw [h2]
    simp [hd]
  · right
    have h3 : (Dk.events s).1 = { s with calls := s.calls + 1, down := true } := by
      rw [h2, crash_up hd, fallen_rest h]
      rw [← h.now]
      have e : s.dur = s.now := by rw [h.now, h.dur]
      simp [h.pend, ← e]
    refine ⟨h3, ?_⟩
    unfold Dk.call
    simp only [h1, hn]
    rw [h3]
    simp
theorem Rest.fell {s : Disk} {x : Option Bs} (h : Rest s x) : Rest { s with calls := s.calls + 1, down := true } x := ⟨⟨h.ok.room, h.ok.now, h.ok.size, by have := h.ok.pend; simp only; omega, by have := h.ok.calls; simp only; omega, h.ok.nil⟩, h.pend, h.now, h.dur, h.plan⟩

/-- What an append comes to. -/
theorem append_law {s : Disk} {x : Option Bs} (h : Rest s x) (hd : s.down = false) (l : Log) (hl : l.bad = false) (p : Bs) :
    ((append s LOG l p).2.2 = 0 ∧ p.length ≤ 60000 ∧ Rest (append s LOG l p).1 (some (x.getD [] ++ Jr.frame p)) ∧ (append s LOG l p).1.down = false ∧ (append s LOG l p).2.1.bad = false) ∨
    ((append s LOG l p).2.2 ≠ 0 ∧ Rest (append s LOG l p).1 x ∧ ((append s LOG l p).1.down = false → (append s LOG l p).2.1.bad = false)) ∨
    ((append s LOG l p).2.2 ≠ 0 ∧ p.length ≤ 60000 ∧ (append s LOG l p).1.down = true ∧ ∃ m, Rest (append s LOG l p).1 (some (x.getD [] ++ (Jr.frame p).take m))) := by
  have hkeep := Dk.Keeps.append h.ok LOG (Jr.frame p)
  unfold append
  rw [if_neg (by rw [hl]; simp)]
  by_cases hbig : 60000 < p.length
  · rw [if_pos hbig]
    exact .inr (.inl ⟨by simp, h, fun _ => hl⟩)
  · rw [if_neg hbig]
    rcases call_rest h hd [LOG] (by simp [name_LOG]) with ⟨c1, c2⟩ | ⟨c1, c2⟩
    · -- the call begins
      have hap : Dk.append s LOG (Jr.frame p) = Dk.lay { s with calls := s.calls + 1 } ⟨LOG, [], Jr.frame p, false, true⟩ (Jr.frame p).length (Dk.call s [LOG]).2.1 := by
        unfold Dk.append
        simp only
        rw [if_neg (by rw [c2]; simp), c1]
      by_cases hfull : (Dk.call s [LOG]).2.1 = true ∨ s.room - Dk.used s.now < ((Jr.frame p).length : Int)
      · have hap2 : Dk.append s LOG (Jr.frame p) = ({ s with calls := s.calls + 1 }, 7) := by
          rw [hap]; unfold Dk.lay; rw [if_pos hfull]
        simp only [hap2]
        rw [if_pos (by simp)]
        exact .inr (.inl ⟨by simp, h.more, fun _ => hl⟩)
      · obtain ⟨s1, hs1⟩ : ∃ s1 : Disk, s1 = Dk.does { s with calls := s.calls + 1 } ⟨LOG, [], Jr.frame p, false, true⟩ := ⟨_, rfl⟩
        have hap2 : Dk.append s LOG (Jr.frame p) = (s1, 0) := by
          rw [hap, hs1]; unfold Dk.lay; rw [if_neg hfull]
        have hk1 : Dk.Ok s1 := by have := hkeep.ok; rw [hap2] at this; exact this
        have d1 : s1.dur = fl x := by rw [hs1]; exact h.dur
        have p1 : s1.pend = [⟨LOG, [], Jr.frame p, false, true⟩] := by rw [hs1]; simp [Dk.does, h.pend]
        have n1 : s1.now = fl (some (x.getD [] ++ Jr.frame p)) := by rw [hs1]; simp only [Dk.does, h.now]; exact make_app x _
        have dn1 : s1.down = false := by rw [hs1]; exact hd
        have pl1 : ∀ e ∈ s1.plan, e.kind ≠ 3 := by rw [hs1]; exact h.plan
        simp only [hap2]
        rw [if_neg (by simp)]
        have hks := Dk.Keeps.sync hk1
        have hkc := Dk.Keeps.call hk1 []
        obtain ⟨h1, h2⟩ := events_any pl1
        rcases h2 with h2 | ⟨k, t, h2⟩
        · have hc : Dk.call s1 [] = ({ s1 with calls := s1.calls + 1 }, (Dk.events s1).2.1, 0) := by
            unfold Dk.call
            simp only [h1, h2]
            simp [dn1]
          have hy : Dk.sync s1 = ({ s1 with calls := s1.calls + 1, dur := s1.now, pend := [] }, 0) := by
            unfold Dk.sync; rw [hc]; simp
          rw [hy] at hks
          simp only [hy]
          rw [if_neg (by simp)]
          exact .inl ⟨rfl, by omega, ⟨hks.ok, rfl, n1, n1, pl1⟩, dn1, hl⟩
        · have hc : Dk.call s1 [] = ({ Dk.crash s1 k t with calls := s1.calls + 1 }, (Dk.events s1).2.1, 9) := by
            unfold Dk.call
            simp only [h1, h2]
            simp [crash_down']
          have hy : Dk.sync s1 = ({ Dk.crash s1 k t with calls := s1.calls + 1 }, 9) := by
            unfold Dk.sync; rw [hc]; simp
          rw [hy] at hks
          simp only [hy]
          rw [if_pos (by simp)]
          right
          rw [crash_up dn1] at hks ⊢
          rcases fallen_app d1 p1 k t with hf | ⟨m, hf⟩
          · left
            rw [hf] at hks ⊢
            exact ⟨by simp, ⟨hks.ok, rfl, rfl, rfl, pl1⟩, fun h => by simp at h⟩
          · right
            rw [hf] at hks ⊢
            exact ⟨by simp, by omega, rfl, m, ⟨hks.ok, rfl, rfl, rfl, pl1⟩⟩
    · have hap : Dk.append s LOG (Jr.frame p) = ({ s with calls := s.calls + 1, down := true }, 9) := by
        unfold Dk.append
        simp only
        rw [if_pos (by rw [c2]; simp), c1, c2]
      simp only [hap]
      rw [if_pos (by simp)]
      exact .inr (.inl ⟨by simp, h.fell, fun h => by simp at h⟩)

theorem scan_part (ok : List Bs) (hok : ∀ q ∈ ok, q.length ≤ 60000) (p : Bs) (hp : p.length ≤ 60000) (m : Nat) : (Jr.scan (Jr.frames ok ++ (Jr.frame p).take m)).1 = ok ∨ (Jr.scan (Jr.frames ok ++ (Jr.frame p).take m)).1 = ok ++ [p] := by
  have hfl := Jr.frame_len p
  rw [Jr.scan_frames _ _ hok]
  by_cases hm : m < p.length + 6
  · left
    rw [Jr.scan_stop _ (Jr.next_cut p m hp hm)]
    simp
  · right
    rw [List.take_of_length_le (by omega)]
    have : Jr.frame p = Jr.frames [p] := by simp [Jr.frames]
    rw [this, Jr.scan_all [p] (by simpa using hp)]
end Jl
