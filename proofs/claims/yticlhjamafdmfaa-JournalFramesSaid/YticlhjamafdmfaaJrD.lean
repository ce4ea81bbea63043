/- Walks: journal.Scan. -/
import Derived.Test.YticlhjamafdmfaaJrC
import Derived.Test.YticlhjamafdmfaaLvTok
set_option linter.unusedVariables false
set_option linter.unusedSimpArgs false
namespace Go.Proofs
open Go.Lv
namespace Jn
variable {H : Heap}

theorem Scan_w (b : List UInt8) (hb : b.length < 1000000) : WF Try.prog cfg 15 [.sl (b.map byteA)] H (fun r H' => ∃ a, r = .tup [a, .i (Jr.scan b).2] ∧ TokOf AV.bytes 1 H.length H' a (Jr.scan b).1 ∧ H <+: H') := by
  have hm : ∀ d, cfg.muF 15 d = (false) := fun _ => rfl
  have hz : ∀ d, cfg.fzF 15 d = (false) := fun _ => rfl
  have ht : ∀ d, cfg.tkF 15 d = (d == 4 || d == 24) := fun _ => rfl
  have hr_ : ∀ g, cfg.raw g = (g == 58 || g == 69) := fun _ => rfl
  refine rF_fn rfl rfl Try.func15 rfl ?_
  repeat' (first | simp (disch := first | omega | assumption | decide) only [go_sem, hm, hz, ht, hr_] | refine ifP_in (fun _ => ?_) (fun _ => ?_))
  refine rL_loop (σ := Nat × Nat × List (List UInt8)) (fun z e H' => H <+: H' ∧ e 0 = .sl (b.map byteA) ∧ e 5 = .i z.2.1 ∧ z.2.1 ≤ b.length ∧ TokOf AV.bytes 1 H.length H' (e 4) z.2.2 ∧ z.2.2.length ≤ z.2.1 ∧ b.length + 1 ≤ z.1 + z.2.1 ∧ Jr.scan b = (z.2.2 ++ (Jr.scanF z.1 (b.drop z.2.1)).1, z.2.1 + (Jr.scanF z.1 (b.drop z.2.1)).2)) (fun z => b.length - z.2.1) (b.length + 1, 0, []) ?_ ?_
  · refine ⟨List.prefix_refl _, ?_, ?_, by simp, ?_, by simp, by simp, by simp [Jr.scan]⟩
    all_goals first | (simp (disch := first | assumption | omega) only [go_sem]; done) | (simp (disch := first | assumption | omega) only [go_sem]; rfl) | (simp (disch := first | assumption | omega) only [go_sem, ht]; exact TokOf.nil)
  · rintro ⟨k, at_, l⟩ e K ⟨hp, g0, g5, i1, hr, i2, i3, i4⟩
    simp only at g0 g5 i1 hr i2 i3 i4
    generalize g4 : e 4 = a at *
    obtain ⟨k, rfl⟩ : ∃ k', k = k' + 1 := ⟨k - 1, by omega⟩
    rw [Jr.scanF] at i4
    repeat' (first | simp (disch := first | omega | assumption | decide) only [go_sem, hm, hz, ht, hr_, g0, g4, g5] | refine ifP_in (fun _ => ?_) (fun _ => ?_))
    · refine rF_use (next_w (b.drop at_) (by simp; omega)) ?_
      rintro _ K1 ⟨rfl, hp1⟩
      rw [if_neg (by simp; omega)] at i4
      cases hnx : (Jr.next (b.drop at_)).2 with
      | false =>
        rw [hnx, if_neg (by simp)] at i4
        repeat' (first | simp (disch := first | omega | assumption | decide) only [go_sem, hm, hz, ht, hr_, g0, g4, g5] | refine ifP_in (fun _ => ?_) (fun _ => ?_))
        refine ⟨a, by rw [i4]; rfl, ?_, List.IsPrefix.trans hp hp1⟩
        rw [i4, List.append_nil]
        exact hr.pre hp1
      | true =>
        rw [hnx, if_pos rfl] at i4
        have hle := Jr.next_le _ hnx
        rw [List.length_drop] at hle
        generalize hq : (Jr.next (b.drop at_)).1 = q at *
        have hql : q.length < 1000000 := by omega
        repeat' (first | simp (disch := first | omega | assumption | decide) only [go_sem, hm, hz, ht, hr_, g0, g4, g5] | refine ifP_in (fun _ => ?_) (fun _ => ?_))
        refine bind_appendT (f := AV.bytes) (ys := [q]) (hr.pre hp1) (List.IsPrefix.trans hp hp1) (by omega) rfl (by simp) (by simp; omega) ?_
        intro a' K2 hr2 hp2
        repeat' (first | simp (disch := first | omega | assumption | decide) only [go_sem, hm, hz, ht, hr_, g0, g4, g5] | refine ifP_in (fun _ => ?_) (fun _ => ?_))
        refine ⟨(k, at_ + (6 + q.length), l ++ [q]), ⟨hp2, by congr 2, by simp only; omega, hr2, by simp; omega, by simp only; omega, ?_⟩, by simp only; omega⟩
        rw [i4, List.drop_drop]
        simp [Nat.add_assoc]
    · rw [if_pos (by simp; omega)] at i4
      refine ⟨a, by rw [i4]; rfl, ?_, hp⟩
      rw [i4, List.append_nil]
      exact hr
end Jn
end Go.Proofs
