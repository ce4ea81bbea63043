/- Walks: numbers as bytes. -/
import Derived.Test.YticlhjamafdmfaaJrAllax0
import Derived.Test.YticlhjamafdmfaaCfgR2
set_option linter.unusedVariables false
set_option linter.unusedSimpArgs false
namespace Go.Proofs
open Go.Lv
namespace Jn
variable {H : Heap}

theorem wrap_put (n k : Nat) : AV.v (.int .u8 (IntKind.u8.wrap ((n : Int) / 2 ^ k))) = byteA (UInt8.ofNat (n / 2 ^ k)) := by
  unfold byteA
  congr 2
theorem put_w (n width : Nat) (h1 : 1 ≤ width) (h2 : width ≤ 6) (h3 : n < 2 ^ (8 * width)) (h4 : n < 281474976710656) : WF Try.prog cfg 90 [.i n, .i width] H (fun r H' => ∃ j, H.length ≤ j ∧ r = .tup [.mr j 0 width 1 false, .i 0] ∧ H'[j]? = some ((Jr.put n width).map byteA) ∧ H <+: H') := by
  have hm : ∀ d, cfg.muF 90 d = (d == 26) := fun _ => rfl
  have hz : ∀ d, cfg.fzF 90 d = (false) := fun _ => rfl
  have ht : ∀ d, cfg.tkF 90 d = (false) := fun _ => rfl
  have hr_ : ∀ g, cfg.raw g = (g == 58 || g == 69) := fun _ => rfl
  refine rF_fn rfl rfl Try.func90 rfl ?_
  have hq0 : (n : Int) / 2 ^ (8 * (width : Int)).toNat = 0 := by
    have e : (8 * (width : Int)).toNat = 8 * width := by omega
    rw [e]
    have : ((n / 2 ^ (8 * width) : Nat) : Int) = 0 := by rw [Nat.div_eq_of_lt h3]; rfl
    rw [← this]; push_cast; rfl
  repeat' (first | simp (disch := first | omega | assumption | decide) only [go_sem, hm, hz, ht, hr_, hq0] | refine ifP_in (fun _ => ?_) (fun _ => ?_))
  rw [make_row (f := byteA) (z0 := 0) (zero_is (P := Try.prog) (t := 5)) (by omega) (by omega) (by omega) (by omega), bindP_some]
  simp only [Int.toNat_natCast]
  repeat' (first | simp (disch := first | omega | assumption | decide) only [go_sem, hm, hz, ht, hr_] | refine ifP_in (fun _ => ?_) (fun _ => ?_))
  refine rL_loop (σ := Nat) (fun i e H' => ∃ xs : List UInt8, H <+: H' ∧ e 0 = .i n ∧ e 1 = .i width ∧ e 6 = .mr H.length 0 width 1 false ∧ e 27 = e 6 ∧ e 28 = .i width ∧ e 29 = .i i ∧ i ≤ width ∧ H'[H.length]? = some (xs.map byteA) ∧ xs.length = width ∧ ∀ k, k < i → xs[k]? = some (Jr.putAt n width k)) (fun i => width - i) 0 ?_ ?_
  · refine ⟨List.replicate width 0, List.prefix_append _ _, ?_, ?_, ?_, ?_, ?_, ?_, by omega, ?_, by simp, fun k hk => by omega⟩
    all_goals first | (simp (disch := first | assumption | omega) only [go_sem]; done) | (simp (disch := first | assumption | omega) only [go_sem]; rfl) | simp
  · rintro i e H' ⟨xs, hp, g0, g1, g6, g27, g28, g29, i1, i3, i4, i2⟩
    repeat' (first | simp (disch := first | omega | assumption | decide) only [go_sem, hm, hz, ht, hr_, g0, g1, g6, g27, g28, g29] | refine ifP_in (fun _ => ?_) (fun _ => ?_))
    · have hlt : i < width := by omega
      have hb : AV.v (.int .u8 (IntKind.u8.wrap ((n : Int) / 2 ^ (8 * ((width : Int) - 1 - i)).toNat))) = byteA (Jr.putAt n width i) := by
        have e : (8 * ((width : Int) - 1 - i)).toNat = 8 * (width - 1 - i) := by omega
        rw [e]
        exact wrap_put _ _
      rw [hb, store_row i3 (by omega), bindP_some]
      repeat' (first | simp (disch := first | omega | assumption | decide) only [go_sem, hm, hz, ht, hr_, g0, g1, g6, g27, g28, g29] | refine ifP_in (fun _ => ?_) (fun _ => ?_))
      refine ⟨i + 1, ⟨xs.set i (Jr.putAt n width i), pre_set1 hp (Nat.le_refl _) _, by congr 2, by omega, get_set (by have := (List.getElem?_eq_some_iff.1 i3).1; exact this), by simpa using i4, fun k hk => ?_⟩, by omega⟩
      by_cases hki : k = i
      · subst hki; rw [List.getElem?_set_self (by omega)]
      · rw [List.getElem?_set_ne (fun h => hki h.symm)]; exact i2 k (by omega)
    · refine ⟨H.length, Nat.le_refl _, rfl, ?_, hp⟩
      have : xs = Jr.put n width := by
        apply List.ext_getElem?
        intro k
        by_cases hk : k < width
        · rw [i2 k (by omega)]; simp [Jr.put, hk]
        · rw [List.getElem?_eq_none (by omega), List.getElem?_eq_none (by simp [Jr.put]; omega)]
      rw [← this]; exact i3

theorem crc_w (l : List UInt8) (hl : l.length < 100000000) : WF Try.prog cfg 91 [.sl (l.map byteA)] H (fun r H' => r = .v (.int .u32 ((Jr.crc l).toNat : Int)) ∧ H' = H) := by
  have hm : ∀ d, cfg.muF 91 d = (false) := fun _ => rfl
  have hz : ∀ d, cfg.fzF 91 d = (false) := fun _ => rfl
  have ht : ∀ d, cfg.tkF 91 d = (false) := fun _ => rfl
  have hr_ : ∀ g, cfg.raw g = (g == 58 || g == 69) := fun _ => rfl
  refine rF_fn rfl rfl Try.func91 rfl ?_
  repeat' (first | simp (disch := first | omega | assumption | decide) only [go_sem, hm, hz, ht, hr_] | refine ifP_in (fun _ => ?_) (fun _ => ?_))
  refine rL_loop (σ := Nat) (fun i e H' => H' = H ∧ e 7 = .sl (l.map byteA) ∧ e 8 = .i l.length ∧ e 9 = .i i ∧ i ≤ l.length ∧ e 3 = .v (.int .u32 (((l.take i).foldl Jr.crcB 4294967295).toNat : Int))) (fun i => l.length - i) 0 ?_ ?_
  · refine ⟨rfl, ?_, ?_, ?_, by omega, ?_⟩
    all_goals first | (simp (disch := first | assumption | omega) only [go_sem]; done) | (simp (disch := first | assumption | omega) only [go_sem]; rfl)
  · rintro i e H' ⟨rfl, g7, g8, g9, i1, g3⟩
    repeat' (first | simp (disch := first | omega | assumption | decide) only [go_sem, hm, hz, ht, hr_, g7, g8, g9, g3, bin_xor_ub] | refine ifP_in (fun _ => ?_) (fun _ => ?_))
    · have hi : i < l.length := by omega
      generalize hs : (l.take i).foldl Jr.crcB 4294967295 ^^^ (ix l (i : Int)).toUInt32 = s
      refine rL_loop (σ := Nat) (fun k e H'' => H'' = H' ∧ e 7 = .sl (l.map byteA) ∧ e 8 = .i l.length ∧ e 9 = .i i ∧ e 17 = .i k ∧ k ≤ 8 ∧ e 3 = .v (.int .u32 ((Jr.bitsN k s).toNat : Int))) (fun k => 8 - k) 0 ?_ ?_
      · refine ⟨rfl, ?_, ?_, ?_, ?_, by omega, ?_⟩
        all_goals first | (simp (disch := first | assumption | omega) only [go_sem, g7, g8, g9, bin_xor_ub]; done) | (simp (disch := first | assumption | omega) only [go_sem, g7, g8, g9]; rfl) | (rw [← hs]; simp (disch := first | assumption | omega) only [go_sem]; rfl)
      · rintro k e H'' ⟨rfl, g7, g8, g9, g17, k1, g3⟩
        repeat' (first | simp (disch := first | omega | assumption | decide) only [go_sem, hm, hz, ht, hr_, g7, g8, g9, g17, g3, bin_and_one, bin_shr_one, bin_xor_poly] | refine ifP_in (fun _ => ?_) (fun _ => ?_))
        · rename_i hlow
          have hl1 : Jr.bitsN k s &&& 1 = 1 := UInt32.toNat_inj.1 (by show _ = 1; omega)
          refine ⟨k + 1, ⟨by congr 2, by omega, ?_⟩, by omega⟩
          rw [Jr.bitsN, Jr.bit, if_pos hl1]
        · rename_i hlow
          have hl1 : ¬ Jr.bitsN k s &&& 1 = 1 := fun h => hlow (by rw [h]; rfl)
          refine ⟨k + 1, ⟨by congr 2, by omega, ?_⟩, by omega⟩
          rw [Jr.bitsN, Jr.bit, if_neg hl1]
        · have hk : k = 8 := by omega
          subst hk
          refine ⟨i + 1, ⟨by congr 2, by omega, ?_⟩, by omega⟩
          have hx : ix l (i : Int) = l[i] := by simp [ix, List.getD_eq_getElem?_getD, List.getElem?_eq_getElem hi]
          rw [List.take_succ_eq_append_getElem hi, List.foldl_append, ← hs, hx]
          rfl
    · have hk : i = l.length := by omega
      subst hk
      rw [List.take_length]
      repeat' (first | simp (disch := first | omega | assumption | decide) only [go_sem, hm, hz, ht, hr_, un1_xor_u32] | refine ifP_in (fun _ => ?_) (fun _ => ?_))
      rfl

/-- Bytes that may be read: a plain row, or one that may be written. -/
def Reads (H : Heap) (a : AV) (l : List UInt8) : Prop := a = .sl (l.map byteA) ∨ ∃ (j off : Nat) (xs : List UInt8), a = .mr j off l.length 1 false ∧ H[j]? = some (xs.map byteA) ∧ (xs.drop off).take l.length = l ∧ 0 < l.length

theorem get_w (l : List UInt8) (hl : l.length < 100000000) {a : AV} (ha : Reads H a l) : WF Try.prog cfg 93 [a, .i 0, .i 2] H (fun r H' => r = (if l.length < 2 then .tup [.i 0, .i 2] else .tup [.i (Jr.get (l.take 2)), .i 0]) ∧ H' = H) := by
  have hget : ∀ i, i < 2 → i < l.length → Jr.get ((l.take 2).take (i + 1)) = Jr.get ((l.take 2).take i) * 256 + (l.getD i 0).toNat := by
    intro i hi hil
    rw [List.take_succ_eq_append_getElem (by simp; omega), Jr.get, List.foldl_append]
    simp [Jr.get, List.getD_eq_getElem?_getD, hil]
  have hbnd : ∀ i, i < 2 → Jr.get ((l.take 2).take i) < 1099511627776 := by
    intro i hi
    match i, hi with
    | 0, _ => simp [Jr.get]
    | 1, _ =>
      cases l with
      | nil => simp [Jr.get]
      | cons b l => have := b.toNat_lt; simp [Jr.get]; omega
  rcases ha with rfl | ⟨j, off, xs, rfl, hj, hx, h0⟩
  · have hm : ∀ d, cfg.muF 93 d = (false) := fun _ => rfl
    have hz : ∀ d, cfg.fzF 93 d = (false) := fun _ => rfl
    have ht : ∀ d, cfg.tkF 93 d = (false) := fun _ => rfl
    have hr_ : ∀ g, cfg.raw g = (g == 58 || g == 69) := fun _ => rfl
    refine rF_fn rfl rfl Try.func93 rfl ?_
    repeat' (first | simp (disch := first | omega | assumption | decide) only [go_sem, hm, hz, ht, hr_] | refine ifP_in (fun _ => ?_) (fun _ => ?_))
    · rw [if_pos (by omega)]
    · rw [if_neg (by omega)]
      refine rL_loop (σ := Nat) (fun i e H' => H' = H ∧ e 40 = .sl ((l.take 2).map byteA) ∧ e 41 = .i ((l.take 2).length) ∧ e 42 = .i i ∧ i ≤ 2 ∧ e 8 = .i (Jr.get ((l.take 2).take i))) (fun i => 2 - i) 0 ?_ ?_
      · refine ⟨rfl, ?_, ?_, ?_, by omega, ?_⟩
        all_goals first | (simp (disch := first | assumption | omega) only [go_sem]; done) | (simp (disch := first | assumption | omega) only [go_sem]; rfl)
      · rintro i e H' ⟨rfl, g40, g41, g42, i1, g8⟩
        have hl2 : (l.take 2).length = 2 := by simp; omega
        by_cases hi : i < 2
        · have hb := hbnd i hi
          have hg := hget i hi (by omega)
          have hix : ix (l.take 2) (i : Int) = l.getD i 0 := by
            simp [ix, List.getD_eq_getElem?_getD, List.getElem?_take, hi]; rfl
          repeat' (first | simp (disch := first | omega | assumption | decide) only [go_sem, hm, hz, ht, hr_, g40, g41, g42, g8, hl2, or_byte hb, hix] | refine ifP_in (fun _ => ?_) (fun _ => ?_))
          refine ⟨i + 1, ⟨by congr 2, by omega, ?_⟩, by omega⟩
          rw [hg]
        · have : i = 2 := by omega
          subst this
          repeat' (first | simp (disch := first | omega | assumption | decide) only [go_sem, hm, hz, ht, hr_, g40, g41, g42, g8, hl2] | refine ifP_in (fun _ => ?_) (fun _ => ?_))
          rw [List.take_take]
          rfl
  · have hm : ∀ d, cfg.muF 93 d = (false) := fun _ => rfl
    have hz : ∀ d, cfg.fzF 93 d = (false) := fun _ => rfl
    have ht : ∀ d, cfg.tkF 93 d = (false) := fun _ => rfl
    have hr_ : ∀ g, cfg.raw g = (g == 58 || g == 69) := fun _ => rfl
    refine rF_fn rfl rfl Try.func93 rfl ?_
    repeat' (first | simp (disch := first | omega | assumption | decide) only [go_sem, hm, hz, ht, hr_] | refine ifP_in (fun _ => ?_) (fun _ => ?_))
    · rw [if_pos (by omega)]
    · rw [if_neg (by omega)]
      have hxi : ∀ i, i < l.length → xs[off + i]? = some (l.getD i 0) := by
        intro i hi
        have h : l[i]? = xs[off + i]? := by
          conv => lhs; rw [← hx]
          rw [List.getElem?_take, if_pos hi, List.getElem?_drop]
        rw [← h, List.getD_eq_getElem?_getD, List.getElem?_eq_getElem hi]
        rfl
      refine rL_loop (σ := Nat) (fun i e H' => H' = H ∧ e 40 = .mr j off 2 1 false ∧ e 41 = .i 2 ∧ e 42 = .i i ∧ i ≤ 2 ∧ e 8 = .i (Jr.get ((l.take 2).take i))) (fun i => 2 - i) 0 ?_ ?_
      · refine ⟨rfl, ?_, ?_, ?_, by omega, ?_⟩
        all_goals first | (simp (disch := first | assumption | omega) only [go_sem]; done) | (simp (disch := first | assumption | omega) only [go_sem]; rfl)
      · rintro i e H' ⟨rfl, g40, g41, g42, i1, g8⟩
        by_cases hi : i < 2
        · have hb := hbnd i hi
          have hg := hget i hi (by omega)
          repeat' (first | simp (disch := first | omega | assumption | decide) only [go_sem, hm, hz, ht, hr_, g40, g41, g42, g8, hj, plainD_map, partD_map, hxi i (by omega), or_byte hb] | refine ifP_in (fun _ => ?_) (fun _ => ?_))
          refine ⟨i + 1, ⟨by congr 2, by omega, ?_⟩, by omega⟩
          rw [hg]
        · have : i = 2 := by omega
          subst this
          repeat' (first | simp (disch := first | omega | assumption | decide) only [go_sem, hm, hz, ht, hr_, g40, g41, g42, g8] | refine ifP_in (fun _ => ?_) (fun _ => ?_))
          rw [List.take_take]
          rfl
end Jn
end Go.Proofs
/- Walks: frames. -/
set_option linter.unusedVariables false
set_option linter.unusedSimpArgs false
namespace Go.Proofs
open Go.Lv
namespace Jn
variable {H : Heap}

theorem pre_get {H H' : Heap} {j : Nat} {cs : List AV} (hp : H <+: H') (h : H[j]? = some cs) : H'[j]? = some cs := by
  obtain ⟨G, rfl⟩ := hp
  rw [List.getElem?_append_left (List.getElem?_eq_some_iff.1 h).1]; exact h
theorem clone_w (l : List UInt8) (hl : l.length ≤ 140737488355328) {a : AV} (ha : Reads H a l) : WF Try.prog cfg 57 [a] H (fun r H' => r = .sl (l.map byteA) ∧ H' = H) := by
  rcases ha with rfl | ⟨j, off, xs, rfl, hj, hx, h0⟩
  · refine WF.ext (g := fun args H => cloneB H args) rfl (r := .sl (l.map byteA)) (H' := H) ?_ ⟨rfl, rfl⟩
    show cloneB H [.sl (l.map byteA)] = _
    simp only [cloneB, u8s_bytes, Option.bind_some]
    rw [if_pos (by simp; omega)]
  · refine WF.ext (g := fun args H => cloneB H args) rfl (r := .sl (l.map byteA)) (H' := H) ?_ ⟨rfl, rfl⟩
    have e : ((xs.map byteA).drop off).take l.length = l.map byteA := by rw [← List.map_drop, ← List.map_take, hx]
    have hle : off + l.length ≤ xs.length := by
      have := congrArg List.length hx
      simp at this; omega
    show cloneB H [.mr j off l.length 1 false] = _
    simp only [cloneB, hj, Option.bind_some, e, u8s_bytes]
    rw [if_pos ⟨by rw [List.length_map]; exact hle, h0, by omega, (plainRow_spec (plainRow_one (all_cell1 xs))).1⟩]

theorem frame_w (p : List UInt8) (hp : p.length ≤ 60000) : WF Try.prog cfg 50 [.sl (p.map byteA)] H (fun r H' => r = .sl ((Jr.frame p).map byteA) ∧ H <+: H') := by
  have hm : ∀ d, cfg.muF 50 d = (d == 25 || d == 27) := fun _ => rfl
  have hz : ∀ d, cfg.fzF 50 d = (d == 2) := fun _ => rfl
  have ht : ∀ d, cfg.tkF 50 d = (false) := fun _ => rfl
  have hr_ : ∀ g, cfg.raw g = (g == 58 || g == 69) := fun _ => rfl
  refine rF_fn rfl rfl Try.func50 rfl ?_
  repeat' (first | simp (disch := first | omega | assumption | decide) only [go_sem, hm, hz, ht, hr_] | refine ifP_in (fun _ => ?_) (fun _ => ?_))
  refine rF_use (put_w p.length 2 (by omega) (by omega) (by omega) (by omega)) ?_
  rintro _ H1 ⟨j, hj, rfl, h1, hp1⟩
  repeat' (first | simp (disch := first | omega | assumption | decide) only [go_sem, hm, hz, ht, hr_] | refine ifP_in (fun _ => ?_) (fun _ => ?_))
  have l1 := Jr.put_len p.length 2
  refine rF_use (clone_w (Jr.put p.length 2) (by omega) (.inr ⟨j, 0, _, by rw [l1], h1, by simp, by omega⟩)) ?_
  rintro _ H2 ⟨rfl, rfl⟩
  repeat' (first | simp (disch := first | omega | assumption | decide) only [go_sem, hm, hz, ht, hr_] | refine ifP_in (fun _ => ?_) (fun _ => ?_))
  refine rF_use (crc_w (Jr.put p.length 2 ++ p) (by simp; omega)) ?_
  rintro _ H3 ⟨rfl, rfl⟩
  have hc := u32_toNat_lt (Jr.crc (Jr.put p.length 2 ++ p))
  generalize hcr : (Jr.crc (Jr.put p.length 2 ++ p)).toNat = c at hc
  repeat' (first | simp (disch := first | omega | assumption | decide) only [go_sem, hm, hz, ht, hr_] | refine ifP_in (fun _ => ?_) (fun _ => ?_))
  refine rF_use (put_w c 4 (by omega) (by omega) (by omega) (by omega)) ?_
  rintro _ H4 ⟨j2, hj2, rfl, h2, hp2⟩
  have l2 := Jr.put_len c 4
  have h1' : H4[j]? = some ((Jr.put p.length 2).map byteA) := pre_get hp2 h1
  repeat' (first | simp (disch := first | omega | assumption | decide) only [go_sem, hm, hz, ht, hr_] | refine ifP_in (fun _ => ?_) (fun _ => ?_))
  have v2 : viewR Try.prog H4 22 (.mr j2 0 4 1 false) = .sl ((Jr.put c 4).map byteA) := by
    rw [view_mr (f := byteA) h2 (by omega) (by omega), List.drop_zero, List.take_of_length_le (by omega)]
  rw [v2, appendM_mr (f := byteA) h1' (by omega) (by omega) rfl (by omega) (by omega), bindP_some, List.take_of_length_le (by omega), l2]
  have hlast : (H4.set j [] ++ [(Jr.put p.length 2 ++ Jr.put c 4).map byteA])[H4.length]? = some ((Jr.put p.length 2 ++ Jr.put c 4).map byteA) := get_end
  have hpre : H <+: H4.set j [] ++ [(Jr.put p.length 2 ++ Jr.put c 4).map byteA] := pre_set (List.IsPrefix.trans hp1 hp2) hj _ _
  have hfr : Jr.frame p = Jr.put p.length 2 ++ Jr.put c 4 ++ p := by rw [Jr.frame, ← hcr]
  generalize hH5 : H4.set j [] ++ [(Jr.put p.length 2 ++ Jr.put c 4).map byteA] = H5 at hlast hpre
  have hj5 : H.length ≤ H4.length := pre_len (List.IsPrefix.trans hp1 hp2)
  generalize H4.length = j5 at hlast hj5
  have hlen : (Jr.put p.length 2 ++ Jr.put c 4).length = 6 := by rw [List.length_append, l1, l2]
  repeat' (first | simp (disch := first | omega | assumption | decide) only [go_sem, hm, hz, ht, hr_] | refine ifP_in (fun _ => ?_) (fun _ => ?_))
  rcases Nat.eq_zero_or_pos p.length with h0 | h0
  · have hpn : p = [] := List.eq_nil_of_length_eq_zero h0
    have e0 : p.map byteA = [] := by rw [hpn]; rfl
    rw [e0, appendM_none (by omega), bindP_some]
    repeat' (first | simp (disch := first | omega | assumption | decide) only [go_sem, hm, hz, ht, hr_] | refine ifP_in (fun _ => ?_) (fun _ => ?_))
    rw [freeze_mr (f := byteA) hlast (by omega) (by omega), bindP_some]
    repeat' (first | simp (disch := first | omega | assumption | decide) only [go_sem, hm, hz, ht, hr_] | refine ifP_in (fun _ => ?_) (fun _ => ?_))
    refine ⟨?_, pre_set1 hpre hj5 _⟩
    rw [hfr, List.take_of_length_le (by omega)]
    simp [hpn]
  · rw [appendM_mr (f := byteA) hlast (by omega) (by omega) rfl (by omega) (by omega), bindP_some, List.take_of_length_le (by omega)]
    repeat' (first | simp (disch := first | omega | assumption | decide) only [go_sem, hm, hz, ht, hr_] | refine ifP_in (fun _ => ?_) (fun _ => ?_))
    rw [freeze_mr (f := byteA) get_end (by omega) (by rw [List.length_append]; omega), bindP_some]
    repeat' (first | simp (disch := first | omega | assumption | decide) only [go_sem, hm, hz, ht, hr_] | refine ifP_in (fun _ => ?_) (fun _ => ?_))
    refine ⟨?_, ?_⟩
    · rw [hfr, List.take_of_length_le (by rw [List.length_append]; omega)]
    · refine pre_set1 (pre_set hpre hj5 _ _) (pre_len hpre) _
end Jn
end Go.Proofs
