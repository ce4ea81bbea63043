/- Walks: the document's bytes. -/
import Derived.Test.YticlhjamafdmfaaJrD
set_option linter.unusedVariables false
set_option linter.unusedSimpArgs false
namespace Go.Proofs
open Go.Lv
namespace Jn
variable {H : Heap}

theorem rBytes_w (a b : List UInt8) {x y : AV} (hx : x = .sl (a.map byteA)) (hy : y = .sl (b.map byteA)) : WF Try.prog cfg 17 [x, y] H (fun r H' => r = .b (decide (a = b)) ∧ H' = H) := by
  subst hx hy
  have hm : ∀ d, cfg.muF 17 d = (false) := fun _ => rfl
  have hz : ∀ d, cfg.fzF 17 d = (false) := fun _ => rfl
  have ht : ∀ d, cfg.tkF 17 d = (false) := fun _ => rfl
  have hr_ : ∀ g, cfg.raw g = (g == 58 || g == 69) := fun _ => rfl
  refine rF_fn rfl rfl Try.func17 rfl ?_
  repeat' (first | simp (disch := first | omega | assumption | decide) only [go_sem, hm, hz, ht, hr_] | refine ifP_in (fun _ => ?_) (fun _ => ?_))

theorem rCopy_w (l : List UInt8) (hl : l.length < 100000000) : WF Try.prog cfg 12 [.sl (l.map byteA)] H (fun r H' => r = .sl (l.map byteA) ∧ H' = H) := by
  have hm : ∀ d, cfg.muF 12 d = (false) := fun _ => rfl
  have hz : ∀ d, cfg.fzF 12 d = (false) := fun _ => rfl
  have ht : ∀ d, cfg.tkF 12 d = (false) := fun _ => rfl
  have hr_ : ∀ g, cfg.raw g = (g == 58 || g == 69) := fun _ => rfl
  refine rF_fn rfl rfl Try.func12 rfl ?_
  repeat' (first | simp (disch := first | omega | assumption | decide) only [go_sem, hm, hz, ht, hr_] | refine ifP_in (fun _ => ?_) (fun _ => ?_))

theorem rCrc_w (l : List UInt8) (hl : l.length < 100000000) : WF Try.prog cfg 52 [.sl (l.map byteA)] H (fun r H' => r = .v (.int .u32 ((Jr.crc l).toNat : Int)) ∧ H' = H) := by
  have hm : ∀ d, cfg.muF 52 d = (false) := fun _ => rfl
  have hz : ∀ d, cfg.fzF 52 d = (false) := fun _ => rfl
  have ht : ∀ d, cfg.tkF 52 d = (false) := fun _ => rfl
  have hr_ : ∀ g, cfg.raw g = (g == 58 || g == 69) := fun _ => rfl
  refine rF_fn rfl rfl Try.func52 rfl ?_
  repeat' (first | simp (disch := first | omega | assumption | decide) only [go_sem, hm, hz, ht, hr_] | refine ifP_in (fun _ => ?_) (fun _ => ?_))
  refine rL_loop (σ := Nat) (fun i e H' => H' = H ∧ e 0 = .sl (l.map byteA) ∧ e 4 = .i i ∧ i ≤ l.length ∧ e 3 = .v (.int .u32 (((l.take i).foldl Jr.crcB 4294967295).toNat : Int))) (fun i => l.length - i) 0 ?_ ?_
  · refine ⟨rfl, ?_, ?_, by omega, ?_⟩
    all_goals first | (simp (disch := first | assumption | omega) only [go_sem]; done) | (simp (disch := first | assumption | omega) only [go_sem]; rfl)
  · rintro i e H' ⟨rfl, g0, g4, i1, g3⟩
    repeat' (first | simp (disch := first | omega | assumption | decide) only [go_sem, hm, hz, ht, hr_, g0, g4, g3, bin_xor_ub] | refine ifP_in (fun _ => ?_) (fun _ => ?_))
    · have hi : i < l.length := by omega
      generalize hs : (l.take i).foldl Jr.crcB 4294967295 ^^^ (ix l (i : Int)).toUInt32 = s
      refine rL_loop (σ := Nat) (fun k e H'' => H'' = H' ∧ e 0 = .sl (l.map byteA) ∧ e 4 = .i i ∧ e 5 = .i k ∧ k ≤ 8 ∧ e 3 = .v (.int .u32 ((Jr.bitsN k s).toNat : Int))) (fun k => 8 - k) 0 ?_ ?_
      · refine ⟨rfl, ?_, ?_, ?_, by omega, ?_⟩
        all_goals first | (simp (disch := first | assumption | omega) only [go_sem, g0, g4, bin_xor_ub]; done) | (simp (disch := first | assumption | omega) only [go_sem, g0, g4]; rfl) | (rw [← hs]; simp (disch := first | assumption | omega) only [go_sem]; rfl)
      · rintro k e H'' ⟨rfl, g0, g4, g5, k1, g3⟩
        repeat' (first | simp (disch := first | omega | assumption | decide) only [go_sem, hm, hz, ht, hr_, g0, g4, g5, g3, bin_and_one, bin_shr_one, bin_xor_poly] | refine ifP_in (fun _ => ?_) (fun _ => ?_))
        · rename_i hlow
          have hl1 : Jr.bitsN k s &&& 1 = 1 := UInt32.toNat_inj.1 (by show _ = 1; omega)
          refine ⟨k + 1, ⟨by congr 2, by omega, ?_⟩, by omega⟩
          rw [Jr.bitsN, Jr.bit, if_pos hl1]
        · rename_i hlow
          have hl1 : ¬ Jr.bitsN k s &&& 1 = 1 := fun h => hlow (by rw [h]; rfl)
          refine ⟨k + 1, ⟨by congr 2, by omega, ?_⟩, by omega⟩
          rw [Jr.bitsN, Jr.bit, if_neg hl1]
        · have hk : k = 8 := by omega
          subst hk
          refine ⟨i + 1, ⟨by congr 2, by omega, ?_⟩, by omega⟩
          have hx : ix l (i : Int) = l[i] := by simp [ix, List.getD_eq_getElem?_getD, List.getElem?_eq_getElem hi]
          rw [List.take_succ_eq_append_getElem hi, List.foldl_append, ← hs, hx]
          rfl
    · have hk : i = l.length := by omega
      subst hk
      rw [List.take_length]
      repeat' (first | simp (disch := first | omega | assumption | decide) only [go_sem, hm, hz, ht, hr_, un1_xor_u32] | refine ifP_in (fun _ => ?_) (fun _ => ?_))
      rfl

theorem rPut_w (n width : Nat) (h1 : 1 ≤ width) (h2 : width ≤ 6) (h3 : n < 2 ^ (8 * width)) (h4 : n < 281474976710656) : WF Try.prog cfg 92 [.i n, .i width] H (fun r H' => r = .tup [.sl ((Jr.put n width).map byteA), .i 0] ∧ H' = H) := by
  have hm : ∀ d, cfg.muF 92 d = (false) := fun _ => rfl
  have hz : ∀ d, cfg.fzF 92 d = (false) := fun _ => rfl
  have ht : ∀ d, cfg.tkF 92 d = (false) := fun _ => rfl
  have hr_ : ∀ g, cfg.raw g = (g == 58 || g == 69) := fun _ => rfl
  refine rF_fn rfl rfl Try.func92 rfl ?_
  have hq0 : (n : Int) / 2 ^ (8 * (width : Int)).toNat = 0 := by
    have e : (8 * (width : Int)).toNat = 8 * width := by omega
    rw [e]
    have : ((n / 2 ^ (8 * width) : Nat) : Int) = 0 := by rw [Nat.div_eq_of_lt h3]; rfl
    rw [← this]; push_cast; rfl
  repeat' (first | simp (disch := first | omega | assumption | decide) only [go_sem, hm, hz, ht, hr_, hq0] | refine ifP_in (fun _ => ?_) (fun _ => ?_))
  refine rL_loop (σ := Nat) (fun i e H' => H' = H ∧ e 0 = .i n ∧ e 1 = .i width ∧ e 7 = .i ((width : Int) - 1 - i) ∧ i ≤ width ∧ e 6 = .sl (((Jr.put n width).take i).map byteA)) (fun i => width - i) 0 ?_ ?_
  · refine ⟨rfl, ?_, ?_, ?_, by omega, ?_⟩
    all_goals first | (simp (disch := first | assumption | omega) only [go_sem]; done) | (simp (disch := first | assumption | omega) only [go_sem]; rfl) | (simp (disch := first | assumption | omega) only [go_sem]; congr 2; omega)
  · rintro i e H' ⟨rfl, g0, g1, g7, i1, g6⟩
    by_cases hi : i < width
    · have hb : AV.v (.int .u8 (IntKind.u8.wrap ((n : Int) / 2 ^ (8 * ((width : Int) - 1 - i)).toNat))) = byteA (Jr.putAt n width i) := by
        have e : (8 * ((width : Int) - 1 - i)).toNat = 8 * (width - 1 - i) := by omega
        rw [e]
        exact wrap_put _ _
      have hl : ((Jr.put n width).take i).length = i := by rw [List.length_take, Jr.put_len]; omega
      repeat' (first | simp (disch := first | omega | assumption | decide) only [go_sem, hm, hz, ht, hr_, g0, g1, g7, g6, hb] | refine ifP_in (fun _ => ?_) (fun _ => ?_))
      refine ⟨i + 1, ⟨by congr 2; omega, by omega, ?_⟩, by omega⟩
      have hil : i < (Jr.put n width).length := by rw [Jr.put_len]; exact hi
      rw [List.take_succ_eq_append_getElem hil]
      simp [Jr.put]
    · have : i = width := by omega
      subst this
      repeat' (first | simp (disch := first | omega | assumption | decide) only [go_sem, hm, hz, ht, hr_, g0, g1, g7, g6] | refine ifP_in (fun _ => ?_) (fun _ => ?_))
      rw [List.take_of_length_le (by rw [Jr.put_len]; omega)]

theorem rNum_w (n width : Nat) (h1 : 1 ≤ width) (h2 : width ≤ 6) (h3 : n < 2 ^ (8 * width)) (h4 : n < 281474976710656) : WF Try.prog cfg 51 [.i n, .i width] H (fun r H' => r = .sl ((Jr.put n width).map byteA) ∧ H' = H) := by
  have hm : ∀ d, cfg.muF 51 d = (false) := fun _ => rfl
  have hz : ∀ d, cfg.fzF 51 d = (false) := fun _ => rfl
  have ht : ∀ d, cfg.tkF 51 d = (false) := fun _ => rfl
  have hr_ : ∀ g, cfg.raw g = (g == 58 || g == 69) := fun _ => rfl
  refine rF_fn rfl rfl Try.func51 rfl ?_
  repeat' (first | simp (disch := first | omega | assumption | decide) only [go_sem, hm, hz, ht, hr_] | refine ifP_in (fun _ => ?_) (fun _ => ?_))
  refine rF_use (rPut_w n width h1 h2 h3 h4) ?_
  rintro _ H1 ⟨rfl, rfl⟩
  repeat' (first | simp (disch := first | omega | assumption | decide) only [go_sem, hm, hz, ht, hr_] | refine ifP_in (fun _ => ?_) (fun _ => ?_))

theorem rFrame_w (p : List UInt8) (hp : p.length < 1000000) : WF Try.prog cfg 14 [.sl (p.map byteA)] H (fun r H' => r = (if 60000 < p.length then .tup [.sl [], .i 3] else .tup [.sl ((Jr.frame p).map byteA), .i 0]) ∧ H' = H) := by
  have hm : ∀ d, cfg.muF 14 d = (false) := fun _ => rfl
  have hz : ∀ d, cfg.fzF 14 d = (false) := fun _ => rfl
  have ht : ∀ d, cfg.tkF 14 d = (false) := fun _ => rfl
  have hr_ : ∀ g, cfg.raw g = (g == 58 || g == 69) := fun _ => rfl
  refine rF_fn rfl rfl Try.func14 rfl ?_
  repeat' (first | simp (disch := first | omega | assumption | decide) only [go_sem, hm, hz, ht, hr_] | refine ifP_in (fun _ => ?_) (fun _ => ?_))
  · rw [if_pos (by omega)]
  · refine rF_use (rNum_w p.length 2 (by omega) (by omega) (by omega) (by omega)) ?_
    rintro _ H1 ⟨rfl, rfl⟩
    have l1 := Jr.put_len p.length 2
    repeat' (first | simp (disch := first | omega | assumption | decide) only [go_sem, hm, hz, ht, hr_] | refine ifP_in (fun _ => ?_) (fun _ => ?_))
    refine rF_use (rCopy_w (Jr.put p.length 2) (by omega)) ?_
    rintro _ H2 ⟨rfl, rfl⟩
    repeat' (first | simp (disch := first | omega | assumption | decide) only [go_sem, hm, hz, ht, hr_] | refine ifP_in (fun _ => ?_) (fun _ => ?_))
    refine rF_use (rCrc_w (Jr.put p.length 2 ++ p) (by simp; omega)) ?_
    rintro _ H3 ⟨rfl, rfl⟩
    have hc := u32_toNat_lt (Jr.crc (Jr.put p.length 2 ++ p))
    generalize hcr : (Jr.crc (Jr.put p.length 2 ++ p)).toNat = c at hc
    repeat' (first | simp (disch := first | omega | assumption | decide) only [go_sem, hm, hz, ht, hr_] | refine ifP_in (fun _ => ?_) (fun _ => ?_))
    refine rF_use (rNum_w c 4 (by omega) (by omega) (by omega) (by omega)) ?_
    rintro _ H4 ⟨rfl, rfl⟩
    have l2 := Jr.put_len c 4
    have l3 : (Jr.put p.length 2 ++ Jr.put c 4).length = 6 := by rw [List.length_append, l1, l2]
    repeat' (first | simp (disch := first | omega | assumption | decide) only [go_sem, hm, hz, ht, hr_] | refine ifP_in (fun _ => ?_) (fun _ => ?_))
    rw [if_neg (by omega), Jr.frame, hcr]
end Jn
end Go.Proofs
