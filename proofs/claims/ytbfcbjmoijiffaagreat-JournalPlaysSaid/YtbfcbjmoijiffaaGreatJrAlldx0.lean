/- Walks: journal.Frame, next, Scan. -/
import Derived.Test.YtbfcbjmoijiffaaGreatJrAllbx1
import Derived.Test.YtbfcbjmoijiffaaGreatLvAll12
import Derived.Test.YtbfcbjmoijiffaaGreatDlAllax0
import Derived.Test.YtbfcbjmoijiffaaGreatJrAllax0
set_option linter.unusedVariables false
set_option linter.unusedSimpArgs false
namespace Go.Proofs
open Go.Lv
namespace Jn
variable {H : Heap}

theorem Frame_w (p : List UInt8) (hp : p.length ≤ 140737488355328) : WF Tryz.prog cfg 32 [.sl (p.map byteA)] H (fun r H' => r = (if 60000 < p.length then .tup [.sl [], .i 3] else .tup [.sl ((Jr.frame p).map byteA), .i 0]) ∧ H <+: H') := by
  have hm : ∀ d, cfg.muF 32 d = (false) := fun _ => rfl
  have hz : ∀ d, cfg.fzF 32 d = (false) := fun _ => rfl
  have ht : ∀ d, cfg.tkF 32 d = (false) := fun _ => rfl
  have hr_ : ∀ g, cfg.raw g = (g == 68) := fun _ => rfl
  refine rF_fn rfl rfl Tryz.func32 rfl ?_
  repeat' first | simp (disch := first | omega | assumption | decide) only [go_sem, hm, hz, ht, hr_] | refine ifP_in (fun _ => ?_) fun _ => ?_
  · rw [if_pos (by omega)]; exact ⟨rfl, List.prefix_refl _⟩
  · refine rF_use (frame_w p (by omega)) ?_
    rintro _ H1 ⟨rfl, hp1⟩
    repeat' first | simp (disch := first | omega | assumption | decide) only [go_sem, hm, hz, ht, hr_] | refine ifP_in (fun _ => ?_) fun _ => ?_
    rw [if_neg (by omega)]
    exact ⟨rfl, hp1⟩

theorem bytesV_reads {a : AV} {l : List UInt8} (ha : Reads H a l) : bytesV H a = some ⟨⟨l⟩⟩ := by
  rcases ha with rfl | ⟨j, off, xs, rfl, hj, hx, h0⟩
  · exact bytesOfA_map l
  · have hle : off + l.length ≤ xs.length := by
      have := congrArg List.length hx
      simp at this; omega
    simp only [bytesV, hj, Option.bind_some]
    rw [if_pos ⟨h0, by rw [List.length_map]; exact hle, (plainRow_spec (plainRow_one (all_cell1 xs))).1⟩, ← List.map_drop, ← List.map_take, hx]
    exact bytesOfA_map l
theorem Equal_w (a b : List UInt8) {x y : AV} (hx : Reads H x a) (hy : Reads H y b) : WF Tryz.prog cfg 92 [x, y] H (fun r H' => r = .b (decide (a = b)) ∧ H' = H) := by
  refine WF.ext (g := fun args H => equalT H args) rfl (r := .b (decide (a = b))) (H' := H) ?_ ⟨rfl, rfl⟩
  show equalT H [x, y] = _
  simp only [equalT, bytesV_reads hx, bytesV_reads hy, Option.bind_some, Option.map_some, toList_mk]
  congr 4
  by_cases h : a = b <;> simp [h]

theorem get2_lt (b : List UInt8) : Jr.get (b.take 2) < 65536 := by
  match b with
  | [] => simp [Jr.get]
  | [x] => have := x.toNat_lt; simp [Jr.get]; omega
  | x :: y :: l => have := x.toNat_lt; have := y.toNat_lt; simp [Jr.get]; omega

theorem next_w (b : List UInt8) (hb : b.length ≤ 2147483648) : WF Tryz.prog cfg 70 [.sl (b.map byteA)] H (fun r H' => r = .tup [.sl ((Jr.next b).1.map byteA), .b (Jr.next b).2] ∧ H <+: H') := by
  have hm : ∀ d, cfg.muF 70 d = (false) := fun _ => rfl
  have hz : ∀ d, cfg.fzF 70 d = (false) := fun _ => rfl
  have ht : ∀ d, cfg.tkF 70 d = (false) := fun _ => rfl
  have hr_ : ∀ g, cfg.raw g = (g == 68) := fun _ => rfl
  refine rF_fn rfl rfl Tryz.func70 rfl ?_
  repeat' first | simp (disch := first | omega | assumption | decide) only [go_sem, hm, hz, ht, hr_] | refine ifP_in (fun _ => ?_) fun _ => ?_
  refine rF_use (get_w b (by omega) (.inl rfl)) ?_
  rintro _ H1 ⟨rfl, rfl⟩
  have hlt := get2_lt b
  unfold Jr.next
  by_cases h2 : b.length < 2
  · rw [if_pos h2, if_pos h2]
    repeat' first | simp (disch := first | omega | assumption | decide) only [go_sem, hm, hz, ht, hr_] | refine ifP_in (fun _ => ?_) fun _ => ?_
    exact List.prefix_refl _
  · rw [if_neg h2, if_neg h2]
    generalize hn : Jr.get (b.take 2) = n at *
    repeat' first | simp (disch := first | omega | assumption | decide) only [go_sem, hm, hz, ht, hr_] | refine ifP_in (fun _ => ?_) fun _ => ?_
    · rw [if_pos (.inr (by omega))]
      exact ⟨rfl, List.prefix_refl _⟩
    · have hp : (b.take (6 + (n : Int)).toNat).drop 6 = (b.drop 6).take n := by
        rw [show (6 + (n : Int)).toNat = 6 + n by omega, List.drop_take]; congr 1; omega
      rw [if_neg (by omega), hp]
      have hpl : ((b.drop 6).take n).length = n := by simp; omega
      generalize hpp : (b.drop 6).take n = p at *
      refine rF_use (clone_w p (by omega) (.inl rfl)) ?_
      rintro _ H2 ⟨rfl, rfl⟩
      repeat' first | simp (disch := first | omega | assumption | decide) only [go_sem, hm, hz, ht, hr_] | refine ifP_in (fun _ => ?_) fun _ => ?_
      refine rF_use (frame_w p (by omega)) ?_
      rintro _ H3 ⟨rfl, hp3⟩
      repeat' first | simp (disch := first | omega | assumption | decide) only [go_sem, hm, hz, ht, hr_] | refine ifP_in (fun _ => ?_) fun _ => ?_
      refine rF_use (Equal_w (Jr.frame p) (b.take (6 + n)) (.inl rfl) (.inl (by rw [show (6 + (n : Int)).toNat = 6 + n by omega]))) ?_
      rintro _ H4 ⟨rfl, rfl⟩
      repeat' first | simp (disch := first | omega | assumption | decide) only [go_sem, hm, hz, ht, hr_] | refine ifP_in (fun _ => ?_) fun _ => ?_
      exact hp3
    · rw [if_pos (.inl (by omega))]
      exact ⟨rfl, List.prefix_refl _⟩

end Jn
end Go.Proofs
/- Walks: journal.Scan. -/
set_option linter.unusedVariables false
set_option linter.unusedSimpArgs false
namespace Go.Proofs
open Go.Lv
namespace Jn
variable {H : Heap}

theorem Scan_w (b : List UInt8) (hb : b.length ≤ 2147483648) : WF Tryz.prog cfg 27 [.sl (b.map byteA)] H (fun r H' => ∃ a, r = .tup [a, .i (Jr.scan b).2] ∧ TokOf AV.bytes 1 H.length H' a (Jr.scan b).1 ∧ H <+: H') := by
  have hm : ∀ d, cfg.muF 27 d = (false) := fun _ => rfl
  have hz : ∀ d, cfg.fzF 27 d = (false) := fun _ => rfl
  have ht : ∀ d, cfg.tkF 27 d = (d == 4 || d == 24) := fun _ => rfl
  have hr_ : ∀ g, cfg.raw g = (g == 68) := fun _ => rfl
  refine rF_fn rfl rfl Tryz.func27 rfl ?_
  repeat' first | simp (disch := first | omega | assumption | decide) only [go_sem, hm, hz, ht, hr_] | refine ifP_in (fun _ => ?_) fun _ => ?_
  refine rL_loop (σ := Nat × Nat × List (List UInt8)) (fun z e H' => H <+: H' ∧ e 0 = .sl (b.map byteA) ∧ e 5 = .i z.2.1 ∧ z.2.1 ≤ b.length ∧ TokOf AV.bytes 1 H.length H' (e 4) z.2.2 ∧ z.2.2.length ≤ z.2.1 ∧ b.length + 1 ≤ z.1 + z.2.1 ∧ Jr.scan b = (z.2.2 ++ (Jr.scanF z.1 (b.drop z.2.1)).1, z.2.1 + (Jr.scanF z.1 (b.drop z.2.1)).2)) (fun z => b.length - z.2.1) (b.length + 1, 0, []) ?_ ?_
  · refine ⟨List.prefix_refl _, ?_, ?_, by simp, ?_, by simp, by simp, by simp [Jr.scan]⟩
    all_goals first | (simp (disch := first | assumption | omega) only [go_sem]; done) | (simp (disch := first | assumption | omega) only [go_sem]; rfl) | (simp (disch := first | assumption | omega) only [go_sem, ht]; exact TokOf.nil)
  · rintro ⟨k, at_, l⟩ e K ⟨hp, g0, g5, i1, hr, i2, i3, i4⟩
    simp only at g0 g5 i1 hr i2 i3 i4
    generalize g4 : e 4 = a at *
    obtain ⟨k, rfl⟩ : ∃ k', k = k' + 1 := ⟨k - 1, by omega⟩
    rw [Jr.scanF] at i4
    repeat' first | simp (disch := first | omega | assumption | decide) only [go_sem, hm, hz, ht, hr_, g0, g4, g5] | refine ifP_in (fun _ => ?_) fun _ => ?_
    · refine rF_use (next_w (b.drop at_) (by simp; omega)) ?_
      rintro _ K1 ⟨rfl, hp1⟩
      rw [if_neg (by simp; omega)] at i4
      cases hnx : (Jr.next (b.drop at_)).2 with
      | false =>
        rw [hnx, if_neg (by simp)] at i4
        repeat' first | simp (disch := first | omega | assumption | decide) only [go_sem, hm, hz, ht, hr_, g0, g4, g5] | refine ifP_in (fun _ => ?_) fun _ => ?_
        refine ⟨a, by rw [i4]; rfl, ?_, List.IsPrefix.trans hp hp1⟩
        rw [i4, List.append_nil]
        exact hr.pre hp1
      | true =>
        rw [hnx, if_pos rfl] at i4
        have hle := Jr.next_le _ hnx
        rw [List.length_drop] at hle
        generalize hq : (Jr.next (b.drop at_)).1 = q at *
        have hql : q.length ≤ 2147483648 := by omega
        repeat' first | simp (disch := first | omega | assumption | decide) only [go_sem, hm, hz, ht, hr_, g0, g4, g5] | refine ifP_in (fun _ => ?_) fun _ => ?_
        refine bind_appendT (f := AV.bytes) (ys := [q]) (hr.pre hp1) (List.IsPrefix.trans hp hp1) (by omega) rfl (by simp) (by simp; omega) ?_
        intro a' K2 hr2 hp2
        repeat' first | simp (disch := first | omega | assumption | decide) only [go_sem, hm, hz, ht, hr_, g0, g4, g5] | refine ifP_in (fun _ => ?_) fun _ => ?_
        refine ⟨(k, at_ + (6 + q.length), l ++ [q]), ⟨hp2, by congr 2, by simp only; omega, hr2, by simp; omega, by simp only; omega, ?_⟩, by simp only; omega⟩
        rw [i4, List.drop_drop]
        simp [Nat.add_assoc]
    · rw [if_pos (by simp; omega)] at i4
      refine ⟨a, by rw [i4]; rfl, ?_, hp⟩
      rw [i4, List.append_nil]
      exact hr

end Jn
end Go.Proofs
/- Walks: the document's bytes. -/
set_option linter.unusedVariables false
set_option linter.unusedSimpArgs false
namespace Go.Proofs
open Go.Lv
namespace Jn
variable {H : Heap}

theorem rBytes_w (a b : List UInt8) {x y : AV} (hx : x = .sl (a.map byteA)) (hy : y = .sl (b.map byteA)) : WF Tryz.prog cfg 46 [x, y] H (fun r H' => r = .b (decide (a = b)) ∧ H' = H) := by
  subst hx hy
  exact lbytes_w a b (.inl rfl) (.inl rfl)

theorem rCopy_w (l : List UInt8) (hl : l.length ≤ 4000000000) : WF Tryz.prog cfg 39 [.sl (l.map byteA)] H (fun r H' => r = .sl (l.map byteA) ∧ H' = H) := by
  have hm : ∀ d, cfg.muF 39 d = (false) := fun _ => rfl
  have hz : ∀ d, cfg.fzF 39 d = (false) := fun _ => rfl
  have ht : ∀ d, cfg.tkF 39 d = (false) := fun _ => rfl
  have hr_ : ∀ g, cfg.raw g = (g == 68) := fun _ => rfl
  refine rF_fn rfl rfl Tryz.func39 rfl ?_
  repeat' first | simp (disch := first | omega | assumption | decide) only [go_sem, hm, hz, ht, hr_] | refine ifP_in (fun _ => ?_) fun _ => ?_

theorem rCrc_w (l : List UInt8) (hl : l.length < 100000000) : WF Tryz.prog cfg 82 [.sl (l.map byteA)] H (fun r H' => r = .v (.int .u32 ((Jr.crc l).toNat : Int)) ∧ H' = H) := by
  have hm : ∀ d, cfg.muF 82 d = (false) := fun _ => rfl
  have hz : ∀ d, cfg.fzF 82 d = (false) := fun _ => rfl
  have ht : ∀ d, cfg.tkF 82 d = (false) := fun _ => rfl
  have hr_ : ∀ g, cfg.raw g = (g == 68) := fun _ => rfl
  refine rF_fn rfl rfl Tryz.func82 rfl ?_
  repeat' first | simp (disch := first | omega | assumption | decide) only [go_sem, hm, hz, ht, hr_] | refine ifP_in (fun _ => ?_) fun _ => ?_
  refine rL_loop (σ := Nat) (fun i e H' => H' = H ∧ e 0 = .sl (l.map byteA) ∧ e 4 = .i i ∧ i ≤ l.length ∧ e 3 = .v (.int .u32 (((l.take i).foldl Jr.crcB 4294967295).toNat : Int))) (fun i => l.length - i) 0 ?_ ?_
  · refine ⟨rfl, ?_, ?_, by omega, ?_⟩
    all_goals first | (simp (disch := first | assumption | omega) only [go_sem]; done) | (simp (disch := first | assumption | omega) only [go_sem]; rfl)
  · rintro i e H' ⟨rfl, g0, g4, i1, g3⟩
    repeat' first | simp (disch := first | omega | assumption | decide) only [go_sem, hm, hz, ht, hr_, g0, g4, g3, bin_xor_ub] | refine ifP_in (fun _ => ?_) fun _ => ?_
    · have hi : i < l.length := by omega
      generalize hs : (l.take i).foldl Jr.crcB 4294967295 ^^^ (ix l (i : Int)).toUInt32 = s
      refine rL_loop (σ := Nat) (fun k e H'' => H'' = H' ∧ e 0 = .sl (l.map byteA) ∧ e 4 = .i i ∧ e 5 = .i k ∧ k ≤ 8 ∧ e 3 = .v (.int .u32 ((Jr.bitsN k s).toNat : Int))) (fun k => 8 - k) 0 ?_ ?_
      · refine ⟨rfl, ?_, ?_, ?_, by omega, ?_⟩
        all_goals first | (simp (disch := first | assumption | omega) only [go_sem, g0, g4, bin_xor_ub]; done) | (simp (disch := first | assumption | omega) only [go_sem, g0, g4]; rfl) | (rw [← hs]; simp (disch := first | assumption | omega) only [go_sem]; rfl)
      · rintro k e H'' ⟨rfl, g0, g4, g5, k1, g3⟩
        repeat' first | simp (disch := first | omega | assumption | decide) only [go_sem, hm, hz, ht, hr_, g0, g4, g5, g3, bin_and_one, bin_shr_one, bin_xor_poly] | refine ifP_in (fun _ => ?_) fun _ => ?_
        · rename_i hlow
          have hl1 : Jr.bitsN k s &&& 1 = 1 := UInt32.toNat_inj.1 (by show _ = 1; omega)
          refine ⟨k + 1, ⟨by congr 2, by omega, ?_⟩, by omega⟩
          rw [Jr.bitsN, Jr.bit, if_pos hl1]
        · rename_i hlow
          have hl1 : ¬ Jr.bitsN k s &&& 1 = 1 := fun h => hlow (by rw [h]; rfl)
          refine ⟨k + 1, ⟨by congr 2, by omega, ?_⟩, by omega⟩
          rw [Jr.bitsN, Jr.bit, if_neg hl1]
        · have hk : k = 8 := by omega
          subst hk
          refine ⟨i + 1, ⟨by congr 2, by omega, ?_⟩, by omega⟩
          have hx : ix l (i : Int) = l[i] := by simp [ix, List.getD_eq_getElem?_getD, List.getElem?_eq_getElem hi]
          rw [List.take_succ_eq_append_getElem hi, List.foldl_append, ← hs, hx]
          rfl
    · have hk : i = l.length := by omega
      subst hk
      rw [List.take_length]
      repeat' first | simp (disch := first | omega | assumption | decide) only [go_sem, hm, hz, ht, hr_, un1_xor_u32] | refine ifP_in (fun _ => ?_) fun _ => ?_
      rfl

theorem rPut_w (n width : Nat) (h1 : 1 ≤ width) (h2 : width ≤ 6) (h3 : n < 2 ^ (8 * width)) (h4 : n < 281474976710656) : WF Tryz.prog cfg 95 [.i n, .i width] H (fun r H' => r = .tup [.sl ((Jr.put n width).map byteA), .i 0] ∧ H' = H) := by
  have hm : ∀ d, cfg.muF 95 d = (false) := fun _ => rfl
  have hz : ∀ d, cfg.fzF 95 d = (false) := fun _ => rfl
  have ht : ∀ d, cfg.tkF 95 d = (false) := fun _ => rfl
  have hr_ : ∀ g, cfg.raw g = (g == 68) := fun _ => rfl
  refine rF_fn rfl rfl Tryz.func95 rfl ?_
  have hq0 : (n : Int) / 2 ^ (8 * (width : Int)).toNat = 0 := by
    have e : (8 * (width : Int)).toNat = 8 * width := by omega
    rw [e]
    have : ((n / 2 ^ (8 * width) : Nat) : Int) = 0 := by rw [Nat.div_eq_of_lt h3]; rfl
    rw [← this]; push_cast; rfl
  repeat' first | simp (disch := first | omega | assumption | decide) only [go_sem, hm, hz, ht, hr_, hq0] | refine ifP_in (fun _ => ?_) fun _ => ?_
  refine rL_loop (σ := Nat) (fun i e H' => H' = H ∧ e 0 = .i n ∧ e 1 = .i width ∧ e 7 = .i ((width : Int) - 1 - i) ∧ i ≤ width ∧ e 6 = .sl (((Jr.put n width).take i).map byteA)) (fun i => width - i) 0 ?_ ?_
  · refine ⟨rfl, ?_, ?_, ?_, by omega, ?_⟩
    all_goals first | (simp (disch := first | assumption | omega) only [go_sem]; done) | (simp (disch := first | assumption | omega) only [go_sem]; rfl) | (simp (disch := first | assumption | omega) only [go_sem]; congr 2; omega)
  · rintro i e H' ⟨rfl, g0, g1, g7, i1, g6⟩
    by_cases hi : i < width
    · have hb : AV.v (.int .u8 (IntKind.u8.wrap ((n : Int) / 2 ^ (8 * ((width : Int) - 1 - i)).toNat))) = byteA (Jr.putAt n width i) := by
        have e : (8 * ((width : Int) - 1 - i)).toNat = 8 * (width - 1 - i) := by omega
        rw [e]
        exact wrap_put _ _
      have hl : ((Jr.put n width).take i).length = i := by rw [List.length_take, Jr.put_len]; omega
      repeat' first | simp (disch := first | omega | assumption | decide) only [go_sem, hm, hz, ht, hr_, g0, g1, g7, g6, hb] | refine ifP_in (fun _ => ?_) fun _ => ?_
      refine ⟨i + 1, ⟨by congr 2; omega, by omega, ?_⟩, by omega⟩
      have hil : i < (Jr.put n width).length := by rw [Jr.put_len]; exact hi
      rw [List.take_succ_eq_append_getElem hil]
      simp [Jr.put]
    · have : i = width := by omega
      subst this
      repeat' first | simp (disch := first | omega | assumption | decide) only [go_sem, hm, hz, ht, hr_, g0, g1, g7, g6] | refine ifP_in (fun _ => ?_) fun _ => ?_
      rw [List.take_of_length_le (by rw [Jr.put_len]; omega)]

theorem rNum_w (n width : Nat) (h1 : 1 ≤ width) (h2 : width ≤ 6) (h3 : n < 2 ^ (8 * width)) (h4 : n < 281474976710656) : WF Tryz.prog cfg 81 [.i n, .i width] H (fun r H' => r = .sl ((Jr.put n width).map byteA) ∧ H' = H) := by
  have hm : ∀ d, cfg.muF 81 d = (false) := fun _ => rfl
  have hz : ∀ d, cfg.fzF 81 d = (false) := fun _ => rfl
  have ht : ∀ d, cfg.tkF 81 d = (false) := fun _ => rfl
  have hr_ : ∀ g, cfg.raw g = (g == 68) := fun _ => rfl
  refine rF_fn rfl rfl Tryz.func81 rfl ?_
  repeat' first | simp (disch := first | omega | assumption | decide) only [go_sem, hm, hz, ht, hr_] | refine ifP_in (fun _ => ?_) fun _ => ?_
  refine rF_use (rPut_w n width h1 h2 h3 h4) ?_
  rintro _ H1 ⟨rfl, rfl⟩
  repeat' first | simp (disch := first | omega | assumption | decide) only [go_sem, hm, hz, ht, hr_] | refine ifP_in (fun _ => ?_) fun _ => ?_

theorem rFrame_w (p : List UInt8) (hp : p.length ≤ 140737488355328) : WF Tryz.prog cfg 36 [.sl (p.map byteA)] H (fun r H' => r = (if 60000 < p.length then .tup [.sl [], .i 3] else .tup [.sl ((Jr.frame p).map byteA), .i 0]) ∧ H' = H) := by
  have hm : ∀ d, cfg.muF 36 d = (false) := fun _ => rfl
  have hz : ∀ d, cfg.fzF 36 d = (false) := fun _ => rfl
  have ht : ∀ d, cfg.tkF 36 d = (false) := fun _ => rfl
  have hr_ : ∀ g, cfg.raw g = (g == 68) := fun _ => rfl
  refine rF_fn rfl rfl Tryz.func36 rfl ?_
  repeat' first | simp (disch := first | omega | assumption | decide) only [go_sem, hm, hz, ht, hr_] | refine ifP_in (fun _ => ?_) fun _ => ?_
  · rw [if_pos (by omega)]
  · refine rF_use (rNum_w p.length 2 (by omega) (by omega) (by omega) (by omega)) ?_
    rintro _ H1 ⟨rfl, rfl⟩
    have l1 := Jr.put_len p.length 2
    repeat' first | simp (disch := first | omega | assumption | decide) only [go_sem, hm, hz, ht, hr_] | refine ifP_in (fun _ => ?_) fun _ => ?_
    refine rF_use (rCopy_w (Jr.put p.length 2) (by omega)) ?_
    rintro _ H2 ⟨rfl, rfl⟩
    repeat' first | simp (disch := first | omega | assumption | decide) only [go_sem, hm, hz, ht, hr_] | refine ifP_in (fun _ => ?_) fun _ => ?_
    refine rF_use (rCrc_w (Jr.put p.length 2 ++ p) (by simp; omega)) ?_
    rintro _ H3 ⟨rfl, rfl⟩
    have hc := u32_toNat_lt (Jr.crc (Jr.put p.length 2 ++ p))
    generalize hcr : (Jr.crc (Jr.put p.length 2 ++ p)).toNat = c at hc
    repeat' first | simp (disch := first | omega | assumption | decide) only [go_sem, hm, hz, ht, hr_] | refine ifP_in (fun _ => ?_) fun _ => ?_
    refine rF_use (rNum_w c 4 (by omega) (by omega) (by omega) (by omega)) ?_
    rintro _ H4 ⟨rfl, rfl⟩
    have l2 := Jr.put_len c 4
    have l3 : (Jr.put p.length 2 ++ Jr.put c 4).length = 6 := by rw [List.length_append, l1, l2]
    repeat' first | simp (disch := first | omega | assumption | decide) only [go_sem, hm, hz, ht, hr_] | refine ifP_in (fun _ => ?_) fun _ => ?_
    rw [if_neg (by omega), Jr.frame, hcr]
end Jn
end Go.Proofs
/- Walks: lists of bytes, the document's reading. -/
set_option linter.unusedVariables false
set_option linter.unusedSimpArgs false
namespace Go.Proofs
open Go.Lv
namespace Jn
variable {H : Heap}

theorem cells_bytes {l : List UInt8} : AV.cells (AV.bytes l) = [AV.bytes l] := rfl
theorem rLists_w (a b : List (List UInt8)) (ha : a.length ≤ 2147483648) {x y : AV} (hx : x = .sl (a.map AV.bytes)) (hy : y = .sl (b.map AV.bytes)) : WF Tryz.prog cfg 16 [x, y] H (fun r H' => r = .b (decide (a = b)) ∧ H' = H) := by
  subst hx hy
  have hm : ∀ d, cfg.muF 16 d = (false) := fun _ => rfl
  have hz : ∀ d, cfg.fzF 16 d = (false) := fun _ => rfl
  have ht : ∀ d, cfg.tkF 16 d = (false) := fun _ => rfl
  have hr_ : ∀ g, cfg.raw g = (g == 68) := fun _ => rfl
  refine rF_fn rfl rfl Tryz.func16 rfl ?_
  repeat' first | simp (disch := first | omega | assumption | decide) only [go_sem, hm, hz, ht, hr_] | refine ifP_in (fun _ => ?_) fun _ => ?_
  · rename_i hne
    have : ¬ a = b := fun h => hne (by rw [h])
    simp [this]
  · rename_i heq
    have heq : a.length = b.length := by omega
    refine rL_loop (σ := Nat) (fun i e H' => H' = H ∧ e 0 = .sl (a.map AV.bytes) ∧ e 1 = .sl (b.map AV.bytes) ∧ e 5 = .i i ∧ i ≤ a.length ∧ a.take i = b.take i) (fun i => a.length - i) 0 ?_ ?_
    · refine ⟨rfl, ?_, ?_, ?_, by omega, by simp⟩
      all_goals first | (simp (disch := first | assumption | omega) only [go_sem]; done) | (simp (disch := first | assumption | omega) only [go_sem]; rfl)
    · rintro i e H' ⟨rfl, g0, g1, g5, i1, i2⟩
      repeat' first | simp (disch := first | omega | assumption | decide) only [go_sem, hm, hz, ht, hr_, g0, g1, g5, cells_bytes] | refine ifP_in (fun _ => ?_) fun _ => ?_
      · refine rF_use (rBytes_w (ix a (i : Int)) (ix b (i : Int)) rfl rfl) ?_
        rintro _ H1 ⟨rfl, rfl⟩
        have hax : ix a (i : Int) = a[i]'(by omega) := by simp [ix, List.getD_eq_getElem?_getD, List.getElem?_eq_getElem (show i < a.length by omega)]
        have hbx : ix b (i : Int) = b[i]'(by omega) := by simp [ix, List.getD_eq_getElem?_getD, List.getElem?_eq_getElem (show i < b.length by omega)]
        repeat' first | simp (disch := first | omega | assumption | decide) only [go_sem, hm, hz, ht, hr_, g0, g1, g5, cells_bytes] | refine ifP_in (fun _ => ?_) fun _ => ?_
        · rename_i hne
          rw [hax, hbx] at hne
          have : ¬ a = b := by rintro rfl; exact hne rfl
          simp [this]
        · rename_i he
          rw [hax, hbx] at he
          refine ⟨i + 1, ⟨by congr 2, by omega, ?_⟩, by omega⟩
          have he' : a[i]'(by omega) = b[i]'(by omega) := by first | exact he | exact Classical.not_not.1 he
          rw [List.take_succ_eq_append_getElem (by omega), List.take_succ_eq_append_getElem (by omega), i2, he']
      · have : i = a.length := by omega
        subst this
        rw [List.take_length, heq, List.take_length] at i2
        simp [i2]
end Jn
end Go.Proofs
/- Walks: the document's reading. -/
set_option linter.unusedVariables false
set_option linter.unusedSimpArgs false
namespace Go.Proofs
open Go.Lv
namespace Jn
variable {H : Heap}

theorem rRead_w (l : List UInt8) (hl : l.length = 2) : WF Tryz.prog cfg 76 [.sl (l.map byteA)] H (fun r H' => r = .i (Jr.get l) ∧ H' = H) := by
  have hm : ∀ d, cfg.muF 76 d = (false) := fun _ => rfl
  have hz : ∀ d, cfg.fzF 76 d = (false) := fun _ => rfl
  have ht : ∀ d, cfg.tkF 76 d = (false) := fun _ => rfl
  have hr_ : ∀ g, cfg.raw g = (g == 68) := fun _ => rfl
  refine rF_fn rfl rfl Tryz.func76 rfl ?_
  have hget : ∀ i, (h : i < l.length) → Jr.get (l.take (i + 1)) = Jr.get (l.take i) * 256 + (l.getD i 0).toNat := by
    intro i h
    rw [List.take_succ_eq_append_getElem h, Jr.get, List.foldl_append]
    simp [Jr.get, List.getD_eq_getElem?_getD, h]
  have hbnd : ∀ i, i < 2 → Jr.get (l.take i) < 1099511627776 := by
    intro i hi
    match i, hi with
    | 0, _ => simp [Jr.get]
    | 1, _ =>
      cases l with
      | nil => simp [Jr.get]
      | cons b l => have := b.toNat_lt; simp [Jr.get]; omega
  repeat' first | simp (disch := first | omega | assumption | decide) only [go_sem, hm, hz, ht, hr_] | refine ifP_in (fun _ => ?_) fun _ => ?_
  refine rL_loop (σ := Nat) (fun i e H' => H' = H ∧ e 0 = .sl (l.map byteA) ∧ e 4 = .i i ∧ i ≤ 2 ∧ e 3 = .i (Jr.get (l.take i))) (fun i => 2 - i) 0 ?_ ?_
  · refine ⟨rfl, ?_, ?_, by omega, ?_⟩
    all_goals first | (simp (disch := first | assumption | omega) only [go_sem]; done) | (simp (disch := first | assumption | omega) only [go_sem]; rfl)
  · rintro i e H' ⟨rfl, g0, g4, i1, g3⟩
    by_cases hi : i < 2
    · have hb := hbnd i hi
      have hg := hget i (by omega)
      have hix : ix l (i : Int) = l.getD i 0 := by simp [ix]; rfl
      repeat' first | simp (disch := first | omega | assumption | decide) only [go_sem, hm, hz, ht, hr_, g0, g4, g3, or_byte hb, hix] | refine ifP_in (fun _ => ?_) fun _ => ?_
      refine ⟨i + 1, ⟨by congr 2, by omega, ?_⟩, by omega⟩
      rw [hg]
    · have : i = 2 := by omega
      subst this
      repeat' first | simp (disch := first | omega | assumption | decide) only [go_sem, hm, hz, ht, hr_, g0, g4, g3] | refine ifP_in (fun _ => ?_) fun _ => ?_
      rw [List.take_of_length_le (by omega)]

theorem next_short (b : List UInt8) (h : b.length < 6) : (Jr.next b).2 = false := by
  unfold Jr.next
  split
  · rfl
  · rw [if_pos (.inr (by omega))]
theorem rScan_w (b : List UInt8) (hb : b.length ≤ 2147483648) : WF Tryz.prog cfg 30 [.sl (b.map byteA)] H (fun r H' => ∃ a, r = .tup [a, .i (Jr.scan b).2] ∧ TokOf AV.bytes 1 H.length H' a (Jr.scan b).1 ∧ H <+: H') := by
  have hm : ∀ d, cfg.muF 30 d = (false) := fun _ => rfl
  have hz : ∀ d, cfg.fzF 30 d = (false) := fun _ => rfl
  have ht : ∀ d, cfg.tkF 30 d = (d == 4 || d == 59) := fun _ => rfl
  have hr_ : ∀ g, cfg.raw g = (g == 68) := fun _ => rfl
  refine rF_fn rfl rfl Tryz.func30 rfl ?_
  repeat' first | simp (disch := first | omega | assumption | decide) only [go_sem, hm, hz, ht, hr_] | refine ifP_in (fun _ => ?_) fun _ => ?_
  refine rL_loop (σ := Nat × Nat × List (List UInt8)) (fun z e H' => H <+: H' ∧ e 0 = .sl (b.map byteA) ∧ e 5 = .i z.2.1 ∧ z.2.1 ≤ b.length ∧ TokOf AV.bytes 1 H.length H' (e 4) z.2.2 ∧ z.2.2.length ≤ z.2.1 ∧ b.length + 1 ≤ z.1 + z.2.1 ∧ Jr.scan b = (z.2.2 ++ (Jr.scanF z.1 (b.drop z.2.1)).1, z.2.1 + (Jr.scanF z.1 (b.drop z.2.1)).2)) (fun z => b.length - z.2.1) (b.length + 1, 0, []) ?_ ?_
  · refine ⟨List.prefix_refl _, ?_, ?_, by simp, ?_, by simp, by simp, by simp [Jr.scan]⟩
    all_goals first | (simp (disch := first | assumption | omega) only [go_sem]; done) | (simp (disch := first | assumption | omega) only [go_sem]; rfl) | (simp (disch := first | assumption | omega) only [go_sem, ht]; exact TokOf.nil)
  · rintro ⟨k, at_, l⟩ e K ⟨hp, g0, g5, i1, hr, i2, i3, i4⟩
    simp only at g0 g5 i1 hr i2 i3 i4
    generalize g4 : e 4 = a at *
    obtain ⟨k, rfl⟩ : ∃ k', k = k' + 1 := ⟨k - 1, by omega⟩
    rw [Jr.scanF] at i4
    by_cases h6 : 6 ≤ b.length - at_
    · repeat' first | simp (disch := first | omega | assumption | decide) only [go_sem, hm, hz, ht, hr_, g0, g4, g5] | refine ifP_in (fun _ => ?_) fun _ => ?_
      have hrl : (b.drop at_).length = b.length - at_ := by simp
      have e2 : (b.take ((at_ : Int) + 2).toNat).drop at_ = (b.drop at_).take 2 := by rw [show ((at_ : Int) + 2).toNat = at_ + 2 by omega, List.drop_take]; congr 1; omega
      rw [e2]
      refine rF_use (rRead_w ((b.drop at_).take 2) (by rw [List.length_take]; omega)) ?_
      rintro _ K1 ⟨rfl, rfl⟩
      have hlt := get2_lt (b.drop at_)
      have hnx : Jr.next (b.drop at_) = if 60000 < Jr.get ((b.drop at_).take 2) ∨ (b.drop at_).length < 6 + Jr.get ((b.drop at_).take 2) then ([], false) else
          (((b.drop at_).drop 6).take (Jr.get ((b.drop at_).take 2)), decide (Jr.frame (((b.drop at_).drop 6).take (Jr.get ((b.drop at_).take 2))) = (b.drop at_).take (6 + Jr.get ((b.drop at_).take 2)))) := by
        rw [Jr.next, if_neg (by omega)]
      rw [if_neg (by omega)] at i4
      generalize hn : Jr.get ((b.drop at_).take 2) = n at *
      by_cases hbad : 60000 < n ∨ (b.drop at_).length < 6 + n
      · rw [if_pos hbad] at hnx
        rw [hnx] at i4
        simp only [Bool.false_eq_true, if_false, List.append_nil, Nat.add_zero] at i4
        rw [i4]
        by_cases hb1 : 60000 < n
        · repeat' first | simp (disch := first | omega | assumption | decide) only [go_sem, hm, hz, ht, hr_, g0, g4, g5] | refine ifP_in (fun _ => ?_) fun _ => ?_
          exact ⟨a, rfl, hr, hp⟩
        · repeat' first | simp (disch := first | omega | assumption | decide) only [go_sem, hm, hz, ht, hr_, g0, g4, g5] | refine ifP_in (fun _ => ?_) fun _ => ?_
          exact ⟨a, rfl, hr, hp⟩
      · rw [if_neg hbad] at hnx
        rw [hrl] at hbad
        have e3 : (b.take ((at_ : Int) + 6 + n).toNat).drop ((at_ : Int) + 6).toNat = ((b.drop at_).drop 6).take n := by
          rw [show ((at_ : Int) + 6 + n).toNat = at_ + 6 + n by omega, show ((at_ : Int) + 6).toNat = at_ + 6 by omega, List.drop_take, List.drop_drop]; congr 1; omega
        have e4 : (b.take ((at_ : Int) + 6 + n).toNat).drop at_ = (b.drop at_).take (6 + n) := by
          rw [show ((at_ : Int) + 6 + n).toNat = at_ + 6 + n by omega, List.drop_take]; congr 1; omega
        have hpl : (((b.drop at_).drop 6).take n).length = n := by simp; omega
        generalize hpp : ((b.drop at_).drop 6).take n = p at *
        repeat' first | simp (disch := first | omega | assumption | decide) only [go_sem, hm, hz, ht, hr_, g0, g4, g5] | refine ifP_in (fun _ => ?_) fun _ => ?_
        rw [e3]
        refine rF_use (rCopy_w p (by omega)) ?_
        rintro _ K2 ⟨rfl, rfl⟩
        repeat' first | simp (disch := first | omega | assumption | decide) only [go_sem, hm, hz, ht, hr_, g0, g4, g5] | refine ifP_in (fun _ => ?_) fun _ => ?_
        refine rF_use (rFrame_w p (by omega)) ?_
        rintro _ K3 ⟨rfl, rfl⟩
        rw [if_neg (by omega)]
        repeat' first | simp (disch := first | omega | assumption | decide) only [go_sem, hm, hz, ht, hr_, g0, g4, g5] | refine ifP_in (fun _ => ?_) fun _ => ?_
        rw [e4]
        refine rF_use (rBytes_w (Jr.frame p) ((b.drop at_).take (6 + n)) rfl rfl) ?_
        rintro _ K4 ⟨rfl, rfl⟩
        rw [hnx] at i4
        simp only [decide_eq_true_eq] at i4
        by_cases hf : Jr.frame p = (b.drop at_).take (6 + n)
        · rw [if_pos hf] at i4
          rw [decide_eq_true hf]
          repeat' first | simp (disch := first | omega | assumption | decide) only [go_sem, hm, hz, ht, hr_, g0, g4, g5] | refine ifP_in (fun _ => ?_) fun _ => ?_
          refine bind_appendT (f := AV.bytes) (ys := [p]) hr hp (by omega) rfl (by simp) (by simp; omega) ?_
          intro a' K5 hr2 hp2
          repeat' first | simp (disch := first | omega | assumption | decide) only [go_sem, hm, hz, ht, hr_, g0, g4, g5] | refine ifP_in (fun _ => ?_) fun _ => ?_
          refine ⟨(k, at_ + (6 + n), l ++ [p]), ⟨hp2, ?_, ?_, hr2, ?_, ?_, ?_⟩, ?_⟩
          · simp only; congr 2; omega
          · simp only; omega
          · simp; omega
          · simp only; omega
          · simp only
            rw [i4, List.drop_drop, hpl]
            simp [Nat.add_assoc]
          · simp only; omega
        · rw [if_neg hf] at i4
          simp only [List.append_nil, Nat.add_zero] at i4
          rw [i4, decide_eq_false hf]
          repeat' first | simp (disch := first | omega | assumption | decide) only [go_sem, hm, hz, ht, hr_, g0, g4, g5] | refine ifP_in (fun _ => ?_) fun _ => ?_
          exact ⟨a, rfl, hr, hp⟩
    · have hz0 : Jr.scan b = (l, at_) := by
        rw [i4]
        by_cases h0 : (b.drop at_).length = 0
        · rw [if_pos h0]; simp
        · rw [if_neg h0, if_neg (by rw [next_short _ (by simp; omega)]; simp)]; simp
      repeat' first | simp (disch := first | omega | assumption | decide) only [go_sem, hm, hz, ht, hr_, g0, g4, g5] | refine ifP_in (fun _ => ?_) fun _ => ?_
      rw [hz0]
      exact ⟨a, rfl, hr, hp⟩
end Jn
end Go.Proofs
/-! Frames one behind the other: what is read of them. -/
namespace Jr
def frames (l : List (List UInt8)) : List UInt8 := l.flatMap frame
theorem frame_len (p : List UInt8) : (frame p).length = p.length + 6 := by
  simp [frame, put_len]; omega
theorem frames_cons (p : List UInt8) (l : List (List UInt8)) : frames (p :: l) = frame p ++ frames l := rfl
theorem frames_append (l m : List (List UInt8)) : frames (l ++ m) = frames l ++ frames m := by simp [frames]
theorem frames_snoc (l : List (List UInt8)) (i : Nat) (h : i < l.length) : frames (l.take (i + 1)) = frames (l.take i) ++ frame l[i] := by
  rw [List.take_succ_eq_append_getElem h, frames_append]
  simp [frames]
theorem frames_split (l : List (List UInt8)) (k : Nat) : frames l = frames (l.take k) ++ frames (l.drop k) := by
  rw [← frames_append, List.take_append_drop]
theorem next_len (b : List UInt8) : (next b).1.length ≤ 60000 := by
  unfold next
  split
  · simp
  · split
    · simp
    · rename_i h1 h2
      simp only [List.length_take]
      omega
theorem scanF_end : ∀ (k : Nat) (b : List UInt8), (frames (scanF k b).1).length = (scanF k b).2 ∧ (scanF k b).2 ≤ b.length ∧ ∀ p ∈ (scanF k b).1, p.length ≤ 60000 := by
  intro k
  induction k with
  | zero => intro b; simp [scanF, frames]
  | succ k ih =>
    intro b
    rw [scanF]
    split
    · simp [frames]
    · split
      · rename_i hn
        have h1 := next_le b hn
        obtain ⟨h2, h3, h4⟩ := ih (b.drop (6 + (next b).1.length))
        rw [List.length_drop] at h3
        refine ⟨?_, ?_, fun p hp => ?_⟩
        · simp only [frames_cons, List.length_append, frame_len, h2]; omega
        · simp only; omega
        · rcases List.mem_cons.1 hp with rfl | hp
          · exact next_len b
          · exact h4 p hp
      · simp [frames]
theorem scan_end (b : List UInt8) : (frames (scan b).1).length = (scan b).2 ∧ (scan b).2 ≤ b.length ∧ ∀ p ∈ (scan b).1, p.length ≤ 60000 := scanF_end _ _
end Jr
