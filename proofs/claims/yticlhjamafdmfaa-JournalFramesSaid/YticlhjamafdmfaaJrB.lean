/- Walks: frames. -/
import Derived.Test.YticlhjamafdmfaaJrA
set_option linter.unusedVariables false
set_option linter.unusedSimpArgs false
namespace Go.Proofs
open Go.Lv
namespace Jn
variable {H : Heap}

theorem pre_get {H H' : Heap} {j : Nat} {cs : List AV} (hp : H <+: H') (h : H[j]? = some cs) : H'[j]? = some cs := by
  obtain ⟨G, rfl⟩ := hp
  rw [List.getElem?_append_left (List.getElem?_eq_some_iff.1 h).1]; exact h
theorem clone_w (l : List UInt8) (hl : l.length < 100000000) {a : AV} (ha : Reads H a l) : WF Try.prog cfg 57 [a] H (fun r H' => r = .sl (l.map byteA) ∧ H' = H) := by
  rcases ha with rfl | ⟨j, off, xs, rfl, hj, hx, h0⟩
  · refine WF.ext (g := fun args H => cloneB H args) rfl (r := .sl (l.map byteA)) (H' := H) ?_ ⟨rfl, rfl⟩
    show cloneB H [.sl (l.map byteA)] = _
    simp only [cloneB, u8s_bytes, Option.bind_some]
    rw [if_pos (by simp; omega)]
  · refine WF.ext (g := fun args H => cloneB H args) rfl (r := .sl (l.map byteA)) (H' := H) ?_ ⟨rfl, rfl⟩
    have e : ((xs.map byteA).drop off).take l.length = l.map byteA := by rw [← List.map_drop, ← List.map_take, hx]
    have hle : off + l.length ≤ xs.length := by
      have := congrArg List.length hx
      simp at this; omega
    show cloneB H [.mr j off l.length 1 false] = _
    simp only [cloneB, hj, Option.bind_some, e, u8s_bytes]
    rw [if_pos ⟨by rw [List.length_map]; exact hle, h0, by omega, (plainRow_spec (plainRow_one (all_cell1 xs))).1⟩]

theorem frame_w (p : List UInt8) (hp : p.length ≤ 60000) : WF Try.prog cfg 50 [.sl (p.map byteA)] H (fun r H' => r = .sl ((Jr.frame p).map byteA) ∧ H <+: H') := by
  have hm : ∀ d, cfg.muF 50 d = (d == 25 || d == 27) := fun _ => rfl
  have hz : ∀ d, cfg.fzF 50 d = (d == 2) := fun _ => rfl
  have ht : ∀ d, cfg.tkF 50 d = (false) := fun _ => rfl
  have hr_ : ∀ g, cfg.raw g = (g == 58 || g == 69) := fun _ => rfl
  refine rF_fn rfl rfl Try.func50 rfl ?_
  repeat' (first | simp (disch := first | omega | assumption | decide) only [go_sem, hm, hz, ht, hr_] | refine ifP_in (fun _ => ?_) (fun _ => ?_))
  refine rF_use (put_w p.length 2 (by omega) (by omega) (by omega) (by omega)) ?_
  rintro _ H1 ⟨j, hj, rfl, h1, hp1⟩
  repeat' (first | simp (disch := first | omega | assumption | decide) only [go_sem, hm, hz, ht, hr_] | refine ifP_in (fun _ => ?_) (fun _ => ?_))
  have l1 := Jr.put_len p.length 2
  refine rF_use (clone_w (Jr.put p.length 2) (by omega) (.inr ⟨j, 0, _, by rw [l1], h1, by simp, by omega⟩)) ?_
  rintro _ H2 ⟨rfl, rfl⟩
  repeat' (first | simp (disch := first | omega | assumption | decide) only [go_sem, hm, hz, ht, hr_] | refine ifP_in (fun _ => ?_) (fun _ => ?_))
  refine rF_use (crc_w (Jr.put p.length 2 ++ p) (by simp; omega)) ?_
  rintro _ H3 ⟨rfl, rfl⟩
  have hc := u32_toNat_lt (Jr.crc (Jr.put p.length 2 ++ p))
  generalize hcr : (Jr.crc (Jr.put p.length 2 ++ p)).toNat = c at hc
  repeat' (first | simp (disch := first | omega | assumption | decide) only [go_sem, hm, hz, ht, hr_] | refine ifP_in (fun _ => ?_) (fun _ => ?_))
  refine rF_use (put_w c 4 (by omega) (by omega) (by omega) (by omega)) ?_
  rintro _ H4 ⟨j2, hj2, rfl, h2, hp2⟩
  have l2 := Jr.put_len c 4
  have h1' : H4[j]? = some ((Jr.put p.length 2).map byteA) := pre_get hp2 h1
  repeat' (first | simp (disch := first | omega | assumption | decide) only [go_sem, hm, hz, ht, hr_] | refine ifP_in (fun _ => ?_) (fun _ => ?_))
  have v2 : viewR Try.prog H4 22 (.mr j2 0 4 1 false) = .sl ((Jr.put c 4).map byteA) := by
    rw [view_mr (f := byteA) h2 (by omega) (by omega), List.drop_zero, List.take_of_length_le (by omega)]
  rw [v2, appendM_mr (f := byteA) h1' (by omega) (by omega) rfl (by omega) (by omega), bindP_some, List.take_of_length_le (by omega), l2]
  have hlast : (H4.set j [] ++ [(Jr.put p.length 2 ++ Jr.put c 4).map byteA])[H4.length]? = some ((Jr.put p.length 2 ++ Jr.put c 4).map byteA) := get_end
  have hpre : H <+: H4.set j [] ++ [(Jr.put p.length 2 ++ Jr.put c 4).map byteA] := pre_set (List.IsPrefix.trans hp1 hp2) hj _ _
  have hfr : Jr.frame p = Jr.put p.length 2 ++ Jr.put c 4 ++ p := by rw [Jr.frame, ← hcr]
  generalize hH5 : H4.set j [] ++ [(Jr.put p.length 2 ++ Jr.put c 4).map byteA] = H5 at hlast hpre
  have hj5 : H.length ≤ H4.length := pre_len (List.IsPrefix.trans hp1 hp2)
  generalize H4.length = j5 at hlast hj5
  have hlen : (Jr.put p.length 2 ++ Jr.put c 4).length = 6 := by rw [List.length_append, l1, l2]
  repeat' (first | simp (disch := first | omega | assumption | decide) only [go_sem, hm, hz, ht, hr_] | refine ifP_in (fun _ => ?_) (fun _ => ?_))
  rcases Nat.eq_zero_or_pos p.length with h0 | h0
  · have hpn : p = [] := List.eq_nil_of_length_eq_zero h0
    have e0 : p.map byteA = [] := by rw [hpn]; rfl
    rw [e0, appendM_none (by omega), bindP_some]
    repeat' (first | simp (disch := first | omega | assumption | decide) only [go_sem, hm, hz, ht, hr_] | refine ifP_in (fun _ => ?_) (fun _ => ?_))
    rw [freeze_mr (f := byteA) hlast (by omega) (by omega), bindP_some]
    repeat' (first | simp (disch := first | omega | assumption | decide) only [go_sem, hm, hz, ht, hr_] | refine ifP_in (fun _ => ?_) (fun _ => ?_))
    refine ⟨?_, pre_set1 hpre hj5 _⟩
    rw [hfr, List.take_of_length_le (by omega)]
    simp [hpn]
  · rw [appendM_mr (f := byteA) hlast (by omega) (by omega) rfl (by omega) (by omega), bindP_some, List.take_of_length_le (by omega)]
    repeat' (first | simp (disch := first | omega | assumption | decide) only [go_sem, hm, hz, ht, hr_] | refine ifP_in (fun _ => ?_) (fun _ => ?_))
    rw [freeze_mr (f := byteA) get_end (by omega) (by rw [List.length_append]; omega), bindP_some]
    repeat' (first | simp (disch := first | omega | assumption | decide) only [go_sem, hm, hz, ht, hr_] | refine ifP_in (fun _ => ?_) (fun _ => ?_))
    refine ⟨?_, ?_⟩
    · rw [hfr, List.take_of_length_le (by rw [List.length_append]; omega)]
    · refine pre_set1 (pre_set hpre hj5 _ _) (pre_len hpre) _
end Jn
end Go.Proofs
