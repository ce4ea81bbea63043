/- Walks: journal.Frame, next, Scan. -/
import Derived.Test.YticlhjamafdmfaaJrAllbx0
import Derived.Test.YticlhjamafdmfaaLvAll6
import Derived.Test.YticlhjamafdmfaaJrAllax0
set_option linter.unusedVariables false
set_option linter.unusedSimpArgs false
namespace Go.Proofs
open Go.Lv
namespace Jn
variable {H : Heap}

theorem Frame_w (p : List UInt8) (hp : p.length < 1000000) : WF Try.prog cfg 13 [.sl (p.map byteA)] H (fun r H' => r = (if 60000 < p.length then .tup [.sl [], .i 3] else .tup [.sl ((Jr.frame p).map byteA), .i 0]) ∧ H <+: H') := by
  have hm : ∀ d, cfg.muF 13 d = (false) := fun _ => rfl
  have hz : ∀ d, cfg.fzF 13 d = (false) := fun _ => rfl
  have ht : ∀ d, cfg.tkF 13 d = (false) := fun _ => rfl
  have hr_ : ∀ g, cfg.raw g = (g == 58 || g == 69) := fun _ => rfl
  refine rF_fn rfl rfl Try.func13 rfl ?_
  repeat' (first | simp (disch := first | omega | assumption | decide) only [go_sem, hm, hz, ht, hr_] | refine ifP_in (fun _ => ?_) (fun _ => ?_))
  · rw [if_pos (by omega)]; exact ⟨rfl, List.prefix_refl _⟩
  · refine rF_use (frame_w p (by omega)) ?_
    rintro _ H1 ⟨rfl, hp1⟩
    repeat' (first | simp (disch := first | omega | assumption | decide) only [go_sem, hm, hz, ht, hr_] | refine ifP_in (fun _ => ?_) (fun _ => ?_))
    rw [if_neg (by omega)]
    exact ⟨rfl, hp1⟩

theorem bytesV_reads {a : AV} {l : List UInt8} (ha : Reads H a l) : bytesV H a = some ⟨⟨l⟩⟩ := by
  rcases ha with rfl | ⟨j, off, xs, rfl, hj, hx, h0⟩
  · exact bytesOfA_map l
  · have hle : off + l.length ≤ xs.length := by
      have := congrArg List.length hx
      simp at this; omega
    simp only [bytesV, hj, Option.bind_some]
    rw [if_pos ⟨h0, by rw [List.length_map]; exact hle, (plainRow_spec (plainRow_one (all_cell1 xs))).1⟩, ← List.map_drop, ← List.map_take, hx]
    exact bytesOfA_map l
theorem Equal_w (a b : List UInt8) {x y : AV} (hx : Reads H x a) (hy : Reads H y b) : WF Try.prog cfg 94 [x, y] H (fun r H' => r = .b (decide (a = b)) ∧ H' = H) := by
  refine WF.ext (g := fun args H => equalT H args) rfl (r := .b (decide (a = b))) (H' := H) ?_ ⟨rfl, rfl⟩
  show equalT H [x, y] = _
  simp only [equalT, bytesV_reads hx, bytesV_reads hy, Option.bind_some, Option.map_some, toList_mk]
  congr 4
  by_cases h : a = b <;> simp [h]

theorem get2_lt (b : List UInt8) : Jr.get (b.take 2) < 65536 := by
  match b with
  | [] => simp [Jr.get]
  | [x] => have := x.toNat_lt; simp [Jr.get]; omega
  | x :: y :: l => have := x.toNat_lt; have := y.toNat_lt; simp [Jr.get]; omega

theorem next_w (b : List UInt8) (hb : b.length < 1000000) : WF Try.prog cfg 53 [.sl (b.map byteA)] H (fun r H' => r = .tup [.sl ((Jr.next b).1.map byteA), .b (Jr.next b).2] ∧ H <+: H') := by
  have hm : ∀ d, cfg.muF 53 d = (false) := fun _ => rfl
  have hz : ∀ d, cfg.fzF 53 d = (false) := fun _ => rfl
  have ht : ∀ d, cfg.tkF 53 d = (false) := fun _ => rfl
  have hr_ : ∀ g, cfg.raw g = (g == 58 || g == 69) := fun _ => rfl
  refine rF_fn rfl rfl Try.func53 rfl ?_
  repeat' (first | simp (disch := first | omega | assumption | decide) only [go_sem, hm, hz, ht, hr_] | refine ifP_in (fun _ => ?_) (fun _ => ?_))
  refine rF_use (get_w b (by omega) (.inl rfl)) ?_
  rintro _ H1 ⟨rfl, rfl⟩
  have hlt := get2_lt b
  unfold Jr.next
  by_cases h2 : b.length < 2
  · rw [if_pos h2, if_pos h2]
    repeat' (first | simp (disch := first | omega | assumption | decide) only [go_sem, hm, hz, ht, hr_] | refine ifP_in (fun _ => ?_) (fun _ => ?_))
    exact List.prefix_refl _
  · rw [if_neg h2, if_neg h2]
    generalize hn : Jr.get (b.take 2) = n at *
    repeat' (first | simp (disch := first | omega | assumption | decide) only [go_sem, hm, hz, ht, hr_] | refine ifP_in (fun _ => ?_) (fun _ => ?_))
    · rw [if_pos (.inr (by omega))]
      exact ⟨rfl, List.prefix_refl _⟩
    · have hp : (b.take (6 + (n : Int)).toNat).drop 6 = (b.drop 6).take n := by
        rw [show (6 + (n : Int)).toNat = 6 + n by omega, List.drop_take]; congr 1; omega
      rw [if_neg (by omega), hp]
      have hpl : ((b.drop 6).take n).length = n := by simp; omega
      generalize hpp : (b.drop 6).take n = p at *
      refine rF_use (clone_w p (by omega) (.inl rfl)) ?_
      rintro _ H2 ⟨rfl, rfl⟩
      repeat' (first | simp (disch := first | omega | assumption | decide) only [go_sem, hm, hz, ht, hr_] | refine ifP_in (fun _ => ?_) (fun _ => ?_))
      refine rF_use (frame_w p (by omega)) ?_
      rintro _ H3 ⟨rfl, hp3⟩
      repeat' (first | simp (disch := first | omega | assumption | decide) only [go_sem, hm, hz, ht, hr_] | refine ifP_in (fun _ => ?_) (fun _ => ?_))
      refine rF_use (Equal_w (Jr.frame p) (b.take (6 + n)) (.inl rfl) (.inl (by rw [show (6 + (n : Int)).toNat = 6 + n by omega]))) ?_
      rintro _ H4 ⟨rfl, rfl⟩
      repeat' (first | simp (disch := first | omega | assumption | decide) only [go_sem, hm, hz, ht, hr_] | refine ifP_in (fun _ => ?_) (fun _ => ?_))
      exact hp3
    · rw [if_pos (.inl (by omega))]
      exact ⟨rfl, List.prefix_refl _⟩

/-- A part of bytes that are read. -/
theorem reads_part {l : List UInt8} {j off : Nat} {xs : List UInt8} (hj : H[j]? = some (xs.map byteA)) (hx : (xs.drop off).take l.length = l) (lo hi : Nat) (h1 : lo ≤ hi) (h2 : hi ≤ l.length) :
    Reads H (if lo < hi ∨ lo = 0 ∧ 0 < hi then .mr j (off + lo) (hi - lo) 1 false else .sl []) ((l.take hi).drop lo) := by
  by_cases h : lo < hi
  · rw [if_pos (.inl h)]
    have hl : ((l.take hi).drop lo).length = hi - lo := by simp; omega
    refine .inr ⟨j, off + lo, xs, by rw [hl], hj, ?_, by omega⟩
    rw [hl]
    conv => rhs; rw [← hx]
    rw [List.take_take, Nat.min_eq_left h2, List.drop_take, List.drop_drop]
  · rw [if_neg (by omega)]
    refine .inl ?_
    have : (l.take hi).drop lo = [] := List.eq_nil_of_length_eq_zero (by simp; omega)
    rw [this]; rfl
theorem next_w' (b : List UInt8) (hb : b.length < 1000000) {a : AV} (ha : Reads H a b) : WF Try.prog cfg 53 [a] H (fun r H' => r = .tup [.sl ((Jr.next b).1.map byteA), .b (Jr.next b).2] ∧ H <+: H') := by
  rcases ha with rfl | ⟨j, off, xs, rfl, hj, hx, h0⟩
  · exact next_w b hb
  have ha : Reads H (.mr j off b.length 1 false) b := .inr ⟨j, off, xs, rfl, hj, hx, h0⟩
  have hm : ∀ d, cfg.muF 53 d = (false) := fun _ => rfl
  have hz : ∀ d, cfg.fzF 53 d = (false) := fun _ => rfl
  have ht : ∀ d, cfg.tkF 53 d = (false) := fun _ => rfl
  have hr_ : ∀ g, cfg.raw g = (g == 58 || g == 69) := fun _ => rfl
  refine rF_fn rfl rfl Try.func53 rfl ?_
  repeat' (first | simp (disch := first | omega | assumption | decide) only [go_sem, hm, hz, ht, hr_] | refine ifP_in (fun _ => ?_) (fun _ => ?_))
  refine rF_use (get_w b (by omega) ha) ?_
  rintro _ H1 ⟨rfl, rfl⟩
  have hlt := get2_lt b
  unfold Jr.next
  by_cases h2 : b.length < 2
  · rw [if_pos h2, if_pos h2]
    repeat' (first | simp (disch := first | omega | assumption | decide) only [go_sem, hm, hz, ht, hr_] | refine ifP_in (fun _ => ?_) (fun _ => ?_))
    exact List.prefix_refl _
  · rw [if_neg h2, if_neg h2]
    generalize hn : Jr.get (b.take 2) = n at *
    by_cases hbad : 60000 < n ∨ b.length < 6 + n
    · rw [if_pos hbad]
      by_cases hb1 : 60000 < n
      · repeat' (first | simp (disch := first | omega | assumption | decide) only [go_sem, hm, hz, ht, hr_] | refine ifP_in (fun _ => ?_) (fun _ => ?_))
        exact List.prefix_refl _
      · repeat' (first | simp (disch := first | omega | assumption | decide) only [go_sem, hm, hz, ht, hr_] | refine ifP_in (fun _ => ?_) (fun _ => ?_))
        exact List.prefix_refl _
    · rw [if_neg hbad]
      repeat' (first | simp (disch := first | omega | assumption | decide) only [go_sem, hm, hz, ht, hr_] | refine ifP_in (fun _ => ?_) (fun _ => ?_))
      have hr : Reads H1 (plainA (if 6 < (6 + (n : Int)).toNat ∨ False then AV.mr j (off + 6) ((6 + (n : Int)).toNat - 6) 1 false else AV.sl [])) ((b.drop 6).take n) := by
        have e := reads_part hj hx 6 (6 + n) (by omega) (by omega)
        have e1 : (b.take (6 + n)).drop 6 = (b.drop 6).take n := by rw [List.drop_take]; congr 1; omega
        rw [e1] at e
        by_cases h : 0 < n
        · rw [if_pos (.inl (by omega))] at e ⊢
          rw [show (6 + (n : Int)).toNat = 6 + n by omega]
          exact e
        · rw [if_neg (by omega)] at e
          rw [if_neg (by rintro (h' | h'); · omega
                         · exact h')]
          exact e
      have hn6 : n ≤ 60000 ∧ 6 + n ≤ b.length := by omega
      have hpl : ((b.drop 6).take n).length = n := by simp; omega
      have hr2 : (List.drop off xs).take (6 + n) = b.take (6 + n) := by
        conv => rhs; rw [← hx]
        rw [List.take_take, Nat.min_eq_left (by omega)]
      generalize hpp : (b.drop 6).take n = p at *
      refine rF_use (clone_w p (by omega) hr) ?_
      rintro _ H2 ⟨rfl, rfl⟩
      repeat' (first | simp (disch := first | omega | assumption | decide) only [go_sem, hm, hz, ht, hr_] | refine ifP_in (fun _ => ?_) (fun _ => ?_))
      refine rF_use (frame_w p (by omega)) ?_
      rintro _ H3 ⟨rfl, hp3⟩
      repeat' (first | simp (disch := first | omega | assumption | decide) only [go_sem, hm, hz, ht, hr_] | refine ifP_in (fun _ => ?_) (fun _ => ?_))
      refine rF_use (Equal_w (Jr.frame p) (b.take (6 + n)) (.inl rfl) ?_) ?_
      · have hl : (b.take (6 + n)).length = 6 + n := by rw [List.length_take]; omega
        rw [show (6 + (n : Int)).toNat = 6 + n by omega]
        exact .inr ⟨j, off, xs, by rw [hl], pre_get hp3 hj, by rw [hl]; exact hr2, by omega⟩
      rintro _ H4 ⟨rfl, rfl⟩
      repeat' (first | simp (disch := first | omega | assumption | decide) only [go_sem, hm, hz, ht, hr_] | refine ifP_in (fun _ => ?_) (fun _ => ?_))
      exact hp3
end Jn
end Go.Proofs
/- Walks: journal.Scan. -/
set_option linter.unusedVariables false
set_option linter.unusedSimpArgs false
namespace Go.Proofs
open Go.Lv
namespace Jn
variable {H : Heap}

theorem Scan_w (b : List UInt8) (hb : b.length < 1000000) : WF Try.prog cfg 15 [.sl (b.map byteA)] H (fun r H' => ∃ a, r = .tup [a, .i (Jr.scan b).2] ∧ TokOf AV.bytes 1 H.length H' a (Jr.scan b).1 ∧ H <+: H') := by
  have hm : ∀ d, cfg.muF 15 d = (false) := fun _ => rfl
  have hz : ∀ d, cfg.fzF 15 d = (false) := fun _ => rfl
  have ht : ∀ d, cfg.tkF 15 d = (d == 4 || d == 24) := fun _ => rfl
  have hr_ : ∀ g, cfg.raw g = (g == 58 || g == 69) := fun _ => rfl
  refine rF_fn rfl rfl Try.func15 rfl ?_
  repeat' (first | simp (disch := first | omega | assumption | decide) only [go_sem, hm, hz, ht, hr_] | refine ifP_in (fun _ => ?_) (fun _ => ?_))
  refine rL_loop (σ := Nat × Nat × List (List UInt8)) (fun z e H' => H <+: H' ∧ e 0 = .sl (b.map byteA) ∧ e 5 = .i z.2.1 ∧ z.2.1 ≤ b.length ∧ TokOf AV.bytes 1 H.length H' (e 4) z.2.2 ∧ z.2.2.length ≤ z.2.1 ∧ b.length + 1 ≤ z.1 + z.2.1 ∧ Jr.scan b = (z.2.2 ++ (Jr.scanF z.1 (b.drop z.2.1)).1, z.2.1 + (Jr.scanF z.1 (b.drop z.2.1)).2)) (fun z => b.length - z.2.1) (b.length + 1, 0, []) ?_ ?_
  · refine ⟨List.prefix_refl _, ?_, ?_, by simp, ?_, by simp, by simp, by simp [Jr.scan]⟩
    all_goals first | (simp (disch := first | assumption | omega) only [go_sem]; done) | (simp (disch := first | assumption | omega) only [go_sem]; rfl) | (simp (disch := first | assumption | omega) only [go_sem, ht]; exact TokOf.nil)
  · rintro ⟨k, at_, l⟩ e K ⟨hp, g0, g5, i1, hr, i2, i3, i4⟩
    simp only at g0 g5 i1 hr i2 i3 i4
    generalize g4 : e 4 = a at *
    obtain ⟨k, rfl⟩ : ∃ k', k = k' + 1 := ⟨k - 1, by omega⟩
    rw [Jr.scanF] at i4
    repeat' (first | simp (disch := first | omega | assumption | decide) only [go_sem, hm, hz, ht, hr_, g0, g4, g5] | refine ifP_in (fun _ => ?_) (fun _ => ?_))
    · refine rF_use (next_w (b.drop at_) (by simp; omega)) ?_
      rintro _ K1 ⟨rfl, hp1⟩
      rw [if_neg (by simp; omega)] at i4
      cases hnx : (Jr.next (b.drop at_)).2 with
      | false =>
        rw [hnx, if_neg (by simp)] at i4
        repeat' (first | simp (disch := first | omega | assumption | decide) only [go_sem, hm, hz, ht, hr_, g0, g4, g5] | refine ifP_in (fun _ => ?_) (fun _ => ?_))
        refine ⟨a, by rw [i4]; rfl, ?_, List.IsPrefix.trans hp hp1⟩
        rw [i4, List.append_nil]
        exact hr.pre hp1
      | true =>
        rw [hnx, if_pos rfl] at i4
        have hle := Jr.next_le _ hnx
        rw [List.length_drop] at hle
        generalize hq : (Jr.next (b.drop at_)).1 = q at *
        have hql : q.length < 1000000 := by omega
        repeat' (first | simp (disch := first | omega | assumption | decide) only [go_sem, hm, hz, ht, hr_, g0, g4, g5] | refine ifP_in (fun _ => ?_) (fun _ => ?_))
        refine bind_appendT (f := AV.bytes) (ys := [q]) (hr.pre hp1) (List.IsPrefix.trans hp hp1) (by omega) rfl (by simp) (by simp; omega) ?_
        intro a' K2 hr2 hp2
        repeat' (first | simp (disch := first | omega | assumption | decide) only [go_sem, hm, hz, ht, hr_, g0, g4, g5] | refine ifP_in (fun _ => ?_) (fun _ => ?_))
        refine ⟨(k, at_ + (6 + q.length), l ++ [q]), ⟨hp2, by congr 2, by simp only; omega, hr2, by simp; omega, by simp only; omega, ?_⟩, by simp only; omega⟩
        rw [i4, List.drop_drop]
        simp [Nat.add_assoc]
    · rw [if_pos (by simp; omega)] at i4
      refine ⟨a, by rw [i4]; rfl, ?_, hp⟩
      rw [i4, List.append_nil]
      exact hr

theorem Scan_w' (b : List UInt8) (hb : b.length < 1000000) {x : AV} (hx : Reads H x b) : WF Try.prog cfg 15 [x] H (fun r H' => ∃ a, r = .tup [a, .i (Jr.scan b).2] ∧ TokOf AV.bytes 1 H.length H' a (Jr.scan b).1 ∧ H <+: H') := by
  rcases hx with rfl | ⟨j, off, xs, rfl, hj, hx, h0⟩
  · exact Scan_w b hb
  have hm : ∀ d, cfg.muF 15 d = (false) := fun _ => rfl
  have hz : ∀ d, cfg.fzF 15 d = (false) := fun _ => rfl
  have ht : ∀ d, cfg.tkF 15 d = (d == 4 || d == 24) := fun _ => rfl
  have hr_ : ∀ g, cfg.raw g = (g == 58 || g == 69) := fun _ => rfl
  refine rF_fn rfl rfl Try.func15 rfl ?_
  repeat' (first | simp (disch := first | omega | assumption | decide) only [go_sem, hm, hz, ht, hr_] | refine ifP_in (fun _ => ?_) (fun _ => ?_))
  refine rL_loop (σ := Nat × Nat × List (List UInt8)) (fun z e H' => H <+: H' ∧ e 0 = .mr j off b.length 1 false ∧ e 5 = .i z.2.1 ∧ z.2.1 ≤ b.length ∧ TokOf AV.bytes 1 H.length H' (e 4) z.2.2 ∧ z.2.2.length ≤ z.2.1 ∧ b.length + 1 ≤ z.1 + z.2.1 ∧ Jr.scan b = (z.2.2 ++ (Jr.scanF z.1 (b.drop z.2.1)).1, z.2.1 + (Jr.scanF z.1 (b.drop z.2.1)).2)) (fun z => b.length - z.2.1) (b.length + 1, 0, []) ?_ ?_
  · refine ⟨List.prefix_refl _, ?_, ?_, by simp, ?_, by simp, by simp, by simp [Jr.scan]⟩
    all_goals first | (simp (disch := first | assumption | omega) only [go_sem]; done) | (simp (disch := first | assumption | omega) only [go_sem]; rfl) | (simp (disch := first | assumption | omega) only [go_sem, ht]; exact TokOf.nil)
  · rintro ⟨k, at_, l⟩ e K ⟨hp, g0, g5, i1, hr, i2, i3, i4⟩
    simp only at g0 g5 i1 hr i2 i3 i4
    generalize g4 : e 4 = a at *
    obtain ⟨k, rfl⟩ : ∃ k', k = k' + 1 := ⟨k - 1, by omega⟩
    rw [Jr.scanF] at i4
    by_cases hlt : at_ < b.length
    · repeat' (first | simp (disch := first | omega | assumption | decide) only [go_sem, hm, hz, ht, hr_, g0, g4, g5] | refine ifP_in (fun _ => ?_) (fun _ => ?_))
      have hrd : Reads K (plainA (if at_ < b.length ∨ at_ = 0 then AV.mr j (off + at_) (b.length - at_) 1 false else AV.sl [])) (b.drop at_) := by
        have e := reads_part hj hx at_ b.length (by omega) (Nat.le_refl _)
        rw [List.take_length, if_pos (.inl hlt)] at e
        rw [if_pos (.inl (by omega))]
        rcases e with e | ⟨j', off', xs', e1, e2, e3, e4⟩
        · cases e
        · exact .inr ⟨j', off', xs', e1, pre_get hp e2, e3, e4⟩
      refine rF_use (next_w' (b.drop at_) (by simp; omega) hrd) ?_
      rintro _ K1 ⟨rfl, hp1⟩
      rw [if_neg (by simp; omega)] at i4
      cases hnx : (Jr.next (b.drop at_)).2 with
      | false =>
        rw [hnx, if_neg (by simp)] at i4
        repeat' (first | simp (disch := first | omega | assumption | decide) only [go_sem, hm, hz, ht, hr_, g0, g4, g5] | refine ifP_in (fun _ => ?_) (fun _ => ?_))
        refine ⟨a, by rw [i4]; rfl, ?_, List.IsPrefix.trans hp hp1⟩
        rw [i4, List.append_nil]
        exact hr.pre hp1
      | true =>
        rw [hnx, if_pos rfl] at i4
        have hle := Jr.next_le _ hnx
        rw [List.length_drop] at hle
        generalize hq : (Jr.next (b.drop at_)).1 = q at *
        have hql : q.length < 1000000 := by omega
        repeat' (first | simp (disch := first | omega | assumption | decide) only [go_sem, hm, hz, ht, hr_, g0, g4, g5] | refine ifP_in (fun _ => ?_) (fun _ => ?_))
        refine bind_appendT (f := AV.bytes) (ys := [q]) (hr.pre hp1) (List.IsPrefix.trans hp hp1) (by omega) rfl (by simp) (by simp; omega) ?_
        intro a' K2 hr2 hp2
        repeat' (first | simp (disch := first | omega | assumption | decide) only [go_sem, hm, hz, ht, hr_, g0, g4, g5] | refine ifP_in (fun _ => ?_) (fun _ => ?_))
        refine ⟨(k, at_ + (6 + q.length), l ++ [q]), ⟨hp2, by congr 2, by simp only; omega, hr2, by simp; omega, by simp only; omega, ?_⟩, by simp only; omega⟩
        rw [i4, List.drop_drop]
        simp [Nat.add_assoc]
    · repeat' (first | simp (disch := first | omega | assumption | decide) only [go_sem, hm, hz, ht, hr_, g0, g4, g5] | refine ifP_in (fun _ => ?_) (fun _ => ?_))
      rw [if_pos (by simp; omega)] at i4
      refine ⟨a, by rw [i4]; rfl, ?_, hp⟩
      rw [i4, List.append_nil]
      exact hr

theorem Scan_w0 (j off : Nat) : WF Try.prog cfg 15 [.mr j off 0 1 false] H (fun r H' => ∃ a, r = .tup [a, .i 0] ∧ TokOf AV.bytes 1 H.length H' a [] ∧ H <+: H') := by
  have hm : ∀ d, cfg.muF 15 d = (false) := fun _ => rfl
  have hz : ∀ d, cfg.fzF 15 d = (false) := fun _ => rfl
  have ht : ∀ d, cfg.tkF 15 d = (d == 4 || d == 24) := fun _ => rfl
  have hr_ : ∀ g, cfg.raw g = (g == 58 || g == 69) := fun _ => rfl
  refine rF_fn rfl rfl Try.func15 rfl ?_
  repeat' (first | simp (disch := first | omega | assumption | decide) only [go_sem, hm, hz, ht, hr_] | refine ifP_in (fun _ => ?_) (fun _ => ?_))
  refine rL_loop (σ := Nat) (fun z e H' => H' = H ∧ e 0 = .mr j off 0 1 false ∧ e 5 = .i 0 ∧ e 4 = nilA) (fun z => z) 0 ?_ ?_
  · refine ⟨rfl, ?_, ?_, ?_⟩
    all_goals first | (simp (disch := first | assumption | omega) only [go_sem]; done) | (simp (disch := first | assumption | omega) only [go_sem]; rfl) | (simp (disch := first | assumption | omega) only [go_sem, ht]; done) | (simp (disch := first | assumption | omega) only [go_sem, ht]; rfl)
  · rintro z e K ⟨rfl, g0, g5, g4⟩
    repeat' (first | simp (disch := first | omega | assumption | decide) only [go_sem, hm, hz, ht, hr_, g0, g4, g5] | refine ifP_in (fun _ => ?_) (fun _ => ?_))
    exact ⟨nilA, rfl, TokOf.nil, List.prefix_refl _⟩
end Jn
end Go.Proofs
/-! Frames one behind the other: what is read of them. -/
namespace Jr
def frames (l : List (List UInt8)) : List UInt8 := l.flatMap frame
theorem frame_len (p : List UInt8) : (frame p).length = p.length + 6 := by
  simp [frame, put_len]; omega
theorem frames_cons (p : List UInt8) (l : List (List UInt8)) : frames (p :: l) = frame p ++ frames l := rfl
theorem frames_append (l m : List (List UInt8)) : frames (l ++ m) = frames l ++ frames m := by simp [frames]
theorem frames_snoc (l : List (List UInt8)) (i : Nat) (h : i < l.length) : frames (l.take (i + 1)) = frames (l.take i) ++ frame l[i] := by
  rw [List.take_succ_eq_append_getElem h, frames_append]
  simp [frames]
theorem get_put2 (n : Nat) (h : n < 65536) : get (put n 2) = n := by
  have e : put n 2 = [UInt8.ofNat (n / 256), UInt8.ofNat n] := by
    simp [put, putAt, List.range_succ]
  rw [e]
  simp only [get, List.foldl_cons, List.foldl_nil, UInt8.toNat_ofNat']
  omega
theorem take2_frame (p r : List UInt8) : (frame p ++ r).take 2 = put p.length 2 := by
  have h := put_len p.length 2
  simp only [frame, List.append_assoc]
  rw [List.take_append_of_le_length (by omega), List.take_of_length_le (by omega)]
theorem body_frame (p r : List UInt8) : ((frame p ++ r).drop 6).take p.length = p := by
  have h2 := put_len p.length 2
  have h4 := put_len (crc (put p.length 2 ++ p)).toNat 4
  have e : frame p = put p.length 2 ++ put (crc (put p.length 2 ++ p)).toNat 4 ++ p := by simp [frame]
  rw [e, List.append_assoc]
  have : (put p.length 2 ++ put (crc (put p.length 2 ++ p)).toNat 4).length = 6 := by rw [List.length_append]; omega
  rw [List.drop_append_of_le_length (by omega), List.drop_of_length_le (by omega)]
  simp
theorem next_frame (p r : List UInt8) (hp : p.length ≤ 60000) : next (frame p ++ r) = (p, true) := by
  have hl := frame_len p
  have hlen : (frame p ++ r).length = p.length + 6 + r.length := by rw [List.length_append, hl]
  unfold next
  rw [if_neg (by omega), take2_frame, get_put2 _ (by omega), if_neg (by omega), body_frame]
  congr 1
  rw [List.take_append_of_le_length (by omega), List.take_of_length_le (by omega)]
  simp
theorem next_cut (p : List UInt8) (m : Nat) (hp : p.length ≤ 60000) (hm : m < p.length + 6) : (next ((frame p).take m)).2 = false := by
  have hl := frame_len p
  have hlen : ((frame p).take m).length = m := by rw [List.length_take]; omega
  unfold next
  split
  · rfl
  · rename_i h2
    have e : ((frame p).take m).take 2 = put p.length 2 := by
      rw [List.take_take, Nat.min_eq_left (by omega)]
      have := take2_frame p []
      simpa using this
    rw [e, get_put2 _ (by omega), if_pos (.inr (by omega))]
theorem scanF_eq : ∀ (k k' : Nat) (b : List UInt8), b.length < k → b.length < k' → scanF k b = scanF k' b := by
  intro k
  induction k with
  | zero => intro k' b h; omega
  | succ k ih =>
    intro k' b h h'
    obtain ⟨k', rfl⟩ : ∃ x, k' = x + 1 := ⟨k' - 1, by omega⟩
    rw [scanF, scanF]
    split
    · rfl
    · split
      · rename_i hn
        have := next_le b hn
        rw [ih k' _ (by rw [List.length_drop]; omega) (by rw [List.length_drop]; omega)]
      · rfl
theorem scan_nil : scan [] = ([], 0) := rfl
theorem scan_step (b : List UInt8) (h0 : b.length ≠ 0) (h : (next b).2 = true) : scan b = ((next b).1 :: (scan (b.drop (6 + (next b).1.length))).1, 6 + (next b).1.length + (scan (b.drop (6 + (next b).1.length))).2) := by
  have hle := next_le b h
  unfold scan
  rw [scanF, if_neg h0, if_pos h, scanF_eq b.length ((b.drop (6 + (next b).1.length)).length + 1) _ (by rw [List.length_drop]; omega) (by omega)]
theorem scan_stop (b : List UInt8) (h : (next b).2 = false) : scan b = ([], 0) := by
  unfold scan
  rw [scanF]
  split
  · rfl
  · rw [if_neg (by rw [h]; simp)]
theorem scan_frames (l : List (List UInt8)) (r : List UInt8) (h : ∀ p ∈ l, p.length ≤ 60000) : scan (frames l ++ r) = (l ++ (scan r).1, (frames l).length + (scan r).2) := by
  induction l with
  | nil => simp [frames]
  | cons p l ih =>
    have hp := h p (by simp)
    have ih := ih (fun q hq => h q (by simp [hq]))
    have hn := next_frame p (frames l ++ r) hp
    rw [frames_cons, List.append_assoc, scan_step _ (by rw [List.length_append, frame_len]; omega) (by rw [hn]), hn]
    simp only
    rw [show 6 + p.length = (frame p).length by rw [frame_len]; omega, List.drop_append_of_le_length (Nat.le_refl _), List.drop_of_length_le (Nat.le_refl _), List.nil_append, ih]
    simp
    omega
theorem scan_all (l : List (List UInt8)) (h : ∀ p ∈ l, p.length ≤ 60000) : scan (frames l) = (l, (frames l).length) := by
  have := scan_frames l [] h
  simpa [scan_nil] using this
theorem frames_split (l : List (List UInt8)) (k : Nat) : frames l = frames (l.take k) ++ frames (l.drop k) := by
  rw [← frames_append, List.take_append_drop]
theorem scan_cut (l : List (List UInt8)) (c k : Nat) (h : ∀ p ∈ l, p.length ≤ 60000) (hk : k < l.length) (h1 : (frames (l.take k)).length ≤ c) (h2 : c < (frames (l.take (k + 1))).length) :
    scan ((frames l).take c) = (l.take k, (frames (l.take k)).length) := by
  have hs := frames_snoc l k hk
  have hp := h l[k] (List.getElem_mem hk)
  rw [hs, List.length_append, frame_len] at h2
  have e : (frames l).take c = frames (l.take k) ++ (frame l[k]).take (c - (frames (l.take k)).length) := by
    rw [frames_split l (k + 1), hs, List.append_assoc, List.take_append, List.take_of_length_le h1]
    congr 1
    rw [List.take_append_of_le_length (by rw [frame_len]; omega)]
  rw [e, scan_frames _ _ (fun p hp => h p (List.mem_of_mem_take hp)), scan_stop _ (next_cut _ _ hp (by omega))]
  simp
theorem scan_turn (l : List (List UInt8)) (m i : Nat) (x : UInt8) (h : ∀ p ∈ l, p.length ≤ 60000) (hi : i ≤ l.length) (h1 : (frames (l.take i)).length ≤ m) :
    i ≤ (scan ((frames l).set m x)).1.length ∧ (scan ((frames l).set m x)).1.take i = l.take i := by
  have e : (frames l).set m x = frames (l.take i) ++ (frames (l.drop i)).set (m - (frames (l.take i)).length) x := by
    rw [frames_split l i, List.set_append_right _ _ h1]
  rw [e, scan_frames _ _ (fun p hp => h p (List.mem_of_mem_take hp))]
  have hl : (l.take i).length = i := by rw [List.length_take]; omega
  constructor
  · simp only [List.length_append]; omega
  · simp only
    rw [List.take_append_of_le_length (by omega), List.take_of_length_le (by omega)]
theorem next_len (b : List UInt8) : (next b).1.length ≤ 60000 := by
  unfold next
  split
  · simp
  · split
    · simp
    · rename_i h1 h2
      simp only [List.length_take]
      omega
theorem scanF_end : ∀ (k : Nat) (b : List UInt8), (frames (scanF k b).1).length = (scanF k b).2 ∧ (scanF k b).2 ≤ b.length ∧ ∀ p ∈ (scanF k b).1, p.length ≤ 60000 := by
  intro k
  induction k with
  | zero => intro b; simp [scanF, frames]
  | succ k ih =>
    intro b
    rw [scanF]
    split
    · simp [frames]
    · split
      · rename_i hn
        have h1 := next_le b hn
        obtain ⟨h2, h3, h4⟩ := ih (b.drop (6 + (next b).1.length))
        rw [List.length_drop] at h3
        refine ⟨?_, ?_, fun p hp => ?_⟩
        · simp only [frames_cons, List.length_append, frame_len, h2]; omega
        · simp only; omega
        · rcases List.mem_cons.1 hp with rfl | hp
          · exact next_len b
          · exact h4 p hp
      · simp [frames]
theorem scan_end (b : List UInt8) : (frames (scan b).1).length = (scan b).2 ∧ (scan b).2 ≤ b.length ∧ ∀ p ∈ (scan b).1, p.length ≤ 60000 := scanF_end _ _
end Jr
