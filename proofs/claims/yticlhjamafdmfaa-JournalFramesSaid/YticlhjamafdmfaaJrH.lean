/- The walk through the law on frames. -/
import Derived.Test.YticlhjamafdmfaaJrW
import Derived.Test.YticlhjamafdmfaaJrG
set_option linter.unusedVariables false
set_option linter.unusedSimpArgs false
namespace Go.Proofs
open Go.Lv
namespace Jn
variable {H : Heap}

theorem frames_w (p b : List UInt8) (hp : p.length ≤ 140737488355328) (hb : b.length ≤ 140737488355328) : WF Try.prog cfg 3 [.sl (p.map byteA), .sl (b.map byteA)] H (fun r H' => r = .b true) := by
  have hm : ∀ d, cfg.muF 3 d = (false) := fun _ => rfl
  have hz : ∀ d, cfg.fzF 3 d = (false) := fun _ => rfl
  have ht : ∀ d, cfg.tkF 3 d = (false) := fun _ => rfl
  have hr_ : ∀ g, cfg.raw g = (g == 58 || g == 69) := fun _ => rfl
  refine rF_fn rfl rfl Try.func3 rfl ?_
  repeat' (first | simp (disch := first | omega | assumption | decide) only [go_sem, hm, hz, ht, hr_] | refine ifP_in (fun _ => ?_) (fun _ => ?_))
  refine rF_use first23_w ?_
  rintro _ H1 ⟨rfl, rfl⟩
  by_cases hbig : 70000 < p.length ∨ 70000 < b.length
  · by_cases h1 : 70000 < p.length
    · repeat' (first | simp (disch := first | omega | assumption | decide) only [go_sem, hm, hz, ht, hr_] | refine ifP_in (fun _ => ?_) (fun _ => ?_))
      refine rF_use first23_w ?_
      rintro _ H1 ⟨rfl, rfl⟩
      repeat' (first | simp (disch := first | omega | assumption | decide) only [go_sem, hm, hz, ht, hr_] | refine ifP_in (fun _ => ?_) (fun _ => ?_))
    · repeat' (first | simp (disch := first | omega | assumption | decide) only [go_sem, hm, hz, ht, hr_] | refine ifP_in (fun _ => ?_) (fun _ => ?_))
      refine rF_use first23_w ?_
      rintro _ H1 ⟨rfl, rfl⟩
      repeat' (first | simp (disch := first | omega | assumption | decide) only [go_sem, hm, hz, ht, hr_] | refine ifP_in (fun _ => ?_) (fun _ => ?_))
  · repeat' (first | simp (disch := first | omega | assumption | decide) only [go_sem, hm, hz, ht, hr_] | refine ifP_in (fun _ => ?_) (fun _ => ?_))
    refine rF_use (rCopy_w b (by omega)) ?_
    rintro _ H1 ⟨rfl, rfl⟩
    repeat' (first | simp (disch := first | omega | assumption | decide) only [go_sem, hm, hz, ht, hr_] | refine ifP_in (fun _ => ?_) (fun _ => ?_))
    obtain ⟨f, e, heq⟩ : ∃ (f : List UInt8) (e : Int), (if 60000 < p.length then AV.tup [.sl [], .i 3] else .tup [.sl ((Jr.frame p).map byteA), .i 0]) = AV.tup [.sl (f.map byteA), .i e] := by
      split
      · exact ⟨[], 3, rfl⟩
      · exact ⟨_, 0, rfl⟩
    refine rF_use (Frame_w p (by omega)) ?_
    rintro _ H2 ⟨rfl, hp2⟩
    rw [heq]
    repeat' (first | simp (disch := first | omega | assumption | decide) only [go_sem, hm, hz, ht, hr_] | refine ifP_in (fun _ => ?_) (fun _ => ?_))
    refine rF_use (rFrame_w p (by omega)) ?_
    rintro _ H3 ⟨rfl, rfl⟩
    rw [heq]
    repeat' (first | simp (disch := first | omega | assumption | decide) only [go_sem, hm, hz, ht, hr_] | refine ifP_in (fun _ => ?_) (fun _ => ?_))
    refine rF_use (Scan_w b (by omega)) ?_
    rintro _ H4 ⟨a, rfl, ha, hp4⟩
    repeat' (first | simp (disch := first | omega | assumption | decide) only [go_sem, hm, hz, ht, hr_] | refine ifP_in (fun _ => ?_) (fun _ => ?_))
    refine rF_use (rScan_w b (by omega)) ?_
    rintro _ H5 ⟨rfl, rfl⟩
    repeat' (first | simp (disch := first | omega | assumption | decide) only [go_sem, hm, hz, ht, hr_] | refine ifP_in (fun _ => ?_) (fun _ => ?_))
    refine rF_use first23_w ?_
    rintro _ H6 ⟨rfl, rfl⟩
    repeat' (first | simp (disch := first | omega | assumption | decide) only [go_sem, hm, hz, ht, hr_] | refine ifP_in (fun _ => ?_) (fun _ => ?_))
    refine rF_use (rBytes_w f f rfl rfl) ?_
    rintro _ H7 ⟨rfl, rfl⟩
    repeat' (first | simp (disch := first | omega | assumption | decide) only [go_sem, hm, hz, ht, hr_] | refine ifP_in (fun _ => ?_) (fun _ => ?_))
    have hlen : (Jr.scan b).1.length < 1000000 := by
      have := Jr.scan_len b
      omega
    rw [ha.plain]
    refine rF_use (rLists_w _ _ hlen rfl rfl) ?_
    rintro _ H8 ⟨rfl, rfl⟩
    repeat' (first | simp (disch := first | omega | assumption | decide) only [go_sem, hm, hz, ht, hr_] | refine ifP_in (fun _ => ?_) (fun _ => ?_))
    refine rF_use (rBytes_w b b rfl rfl) ?_
    rintro _ H9 ⟨rfl, rfl⟩
    repeat' (first | simp (disch := first | omega | assumption | decide) only [go_sem, hm, hz, ht, hr_] | refine ifP_in (fun _ => ?_) (fun _ => ?_))
end Jn
end Go.Proofs
