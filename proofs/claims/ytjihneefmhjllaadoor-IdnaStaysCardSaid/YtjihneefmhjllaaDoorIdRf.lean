/- Walks: the signs of a name. -/
import Derived.Test.YtjihneefmhjllaaDoorIdRe
import Derived.Test.YtjihneefmhjllaaDoorSpA
set_option linter.unusedVariables false
set_option linter.unusedSimpArgs false
namespace Go.Proofs
open Go.Lv
namespace In
open Pu Ut
variable {H : Heap}
theorem ints_take {s : List UInt8} {i : Nat} (h : i < s.length) : Puny.ints (s.take (i + 1)) = Puny.ints (s.take i) ++ [(s[i].toNat : Int)] := by
  unfold Puny.ints
  rw [List.take_succ_eq_append_getElem h, List.map_append]; rfl
theorem joined (p : List (List UInt8)) (i : Nat) (hi : i < p.length) : Sp.join [46] ((p.take (i + 1)).map Id.uni1) = (if i = 0 then [] else Sp.join [46] ((p.take i).map Id.uni1) ++ [46]) ++ Id.uni1 p[i] := by
  rw [List.take_succ_eq_append_getElem hi, List.map_append, List.map_singleton, Sp.join_snoc]
  by_cases h0 : i = 0
  · subst h0; simp
  · rw [if_neg h0, if_neg]
    intro h
    have h2 : (p.take i).length = 0 := by
      have := congrArg List.length h
      simpa using this
    rw [List.length_take] at h2
    omega
theorem joined_len (p : List (List UInt8)) (i : Nat) (hp : ∀ x ∈ p, x.length ≤ 5000) (h1 : p.length ≤ 5001) : (Sp.join [46] ((p.take i).map Id.uni1)).length ≤ 5001 * (5256 + 1) := by
  have h := Sp.join_len_i [46] 5256 ((p.take i).map Id.uni1) (by
    intro y hy
    obtain ⟨x, hx, rfl⟩ := List.mem_map.1 hy
    have := Id.uni1_len x
    have := hp x (List.mem_of_mem_take hx)
    omega)
  simp only [List.length_map, List.length_singleton] at h
  have h2 : (p.take i).length ≤ 5001 := by simp; omega
  exact Nat.le_trans h (Nat.mul_le_mul h2 (Nat.le_refl _))
theorem toUni_w (s : List UInt8) (hs : s.length ≤ 5000) : WF Tryd.prog cfg 12 [.str s] H (fun r H' => r = .sl ((Id.toUni s).map iA)) := by
  have hm : ∀ d, cfg.muF 12 d = (false) := fun _ => rfl
  have hz : ∀ d, cfg.fzF 12 d = (false) := fun _ => rfl
  have ht : ∀ d, cfg.tkF 12 d = (false) := fun _ => rfl
  have hr_ : ∀ g, cfg.raw g = (g == 60 || g == 63) := fun _ => rfl
  refine rF_fn rfl rfl Tryd.func12 rfl ?_
  repeat' (first | simp (disch := first | omega | assumption | decide) only [go_sem, hm, hz, ht, hr_, split_we] | refine ifP_in (fun _ => ?_) (fun _ => ?_))
  have hsl := Sp.split_len_le (c := 46) s
  have hsp := Sp.split_part_len (c := 46) s
  have hun : Id.toUni s = Sp.join [46] ((Sp.split 46 s).map Id.uni1) := rfl
  rw [hun]
  clear hun
  generalize Sp.split 46 s = p at *
  have hjl := fun i => joined_len p i (fun x hx => by have := hsp x hx; omega) (by omega)
  have h4p : ([120, 110, 45, 45] : List UInt8).length = 4 := rfl
  refine rL_loop (σ := Nat) (fun i e H' => e 12 = .sl (p.map AV.str) ∧ e 13 = .i p.length ∧ e 14 = .i i ∧ e 3 = .sl ((Sp.join [46] ((p.take i).map Id.uni1)).map iA) ∧ i ≤ p.length) (fun i => p.length - i) 0 ?_ ?_
  · refine ⟨?_, ?_, ?_, ?_, by omega⟩
    all_goals first | (simp (disch := first | assumption | omega) only [go_sem]; done) | (simp (disch := first | assumption | omega) only [go_sem]; rfl)
  · rintro i e K ⟨g12, g13, g14, g3, i1⟩
    by_cases hi : i < p.length
    · have hix := ix_at hi
      have hjn := joined p i hi
      have hji := hjl i
      have hxl := hsp _ (List.getElem_mem hi)
      obtain ⟨AA, hA⟩ : ∃ A, A = (if i = 0 then [] else Sp.join [46] ((p.take i).map Id.uni1) ++ [46]) := ⟨_, rfl⟩
      rw [← hA] at hjn
      have hAl : AA.length ≤ 26500000 := by
        rw [hA]; split
        · simp
        · rw [List.length_append, List.length_singleton]; omega
      generalize p[i] = x at *
      by_cases h0 : i = 0
      · have hj0 : Sp.join [46] ((p.take i).map Id.uni1) = AA := by rw [hA, if_pos h0, h0]; rfl
        rw [hj0] at g3
        clear hA hj0
        have hAA : (0 : Int) = 0 := rfl
        by_cases htk2 : x.take 4 = [120, 110, 45, 45]
        · have htk3 : x.take 4 = Id.XNb := htk2
          repeat' (first | simp (disch := first | omega | assumption | decide) only [go_sem, hm, hz, ht, hr_, g12, g13, g14, g3, hix, cutPrefix_we, htk2, h4p, hAA] | refine ifP_in (fun _ => ?_) (fun _ => ?_))
          refine rF_use (decode_w (x.drop 4) (by simp; omega)) ?_
          rintro _ K3 ⟨rfl, hp3⟩
          have hdl := Id.decode_len (x.drop 4)
          have hun : Id.uni1 x = if x.take 4 = Id.XNb ∧ (Puny.decode (x.drop 4)).2 = 0 then (Puny.decode (x.drop 4)).1 else Puny.ints x := rfl
          generalize (Puny.decode (x.drop 4)).1 = u at *
          generalize (Puny.decode (x.drop 4)).2 = er at *
          by_cases h0 : er = 0
          · subst h0
            rw [if_pos ⟨htk3, rfl⟩] at hun
            repeat' (first | simp (disch := first | omega | assumption | decide) only [go_sem, hm, hz, ht, hr_, g12, g13, g14, g3, hix, hAA] | refine ifP_in (fun _ => ?_) (fun _ => ?_))
            refine ⟨i + 1, ⟨rfl, ?_, by omega⟩, by omega⟩
            rw [hjn, hun]
          · rw [if_neg (fun h => h0 h.2)] at hun
            repeat' (first | simp (disch := first | omega | assumption | decide) only [go_sem, hm, hz, ht, hr_, g12, g13, g14, g3, hix, hAA] | refine ifP_in (fun _ => ?_) (fun _ => ?_))
            refine rL_loop (σ := Nat) (fun k e K => e 12 = .sl (p.map AV.str) ∧ e 13 = .i p.length ∧ e 14 = .i i ∧ e 5 = .str x ∧ e 41 = .i x.length ∧ e 42 = .i k ∧ k ≤ x.length ∧ e 3 = .sl ((AA ++ Puny.ints (x.take k)).map iA)) (fun k => x.length - k) 0 ?_ ?_
            · refine ⟨?_, ?_, ?_, ?_, ?_, ?_, by omega, ?_⟩
              all_goals first | (simp (disch := first | assumption | omega) only [go_sem, g12, g13, g14, g3, hAA]; done) | (simp (disch := first | assumption | omega) only [go_sem, g12, g13, g14, g3, hAA]; rfl) | (simp (disch := first | assumption | omega) only [go_sem, g12, g13, g14, g3, hAA]; simp [Puny.ints]; done) | (simp (disch := first | assumption | omega) only [go_sem, g12, g13, g14, g3, hAA]; simp [Puny.ints]; done) | (simp (disch := first | assumption | omega) only [go_sem, g12, g13, g14, g3, hAA]; simp [Puny.ints]; rfl)
            · clear g12 g13 g14 g3
              rintro k e K ⟨g12, g13, g14, g5, g41, g42, k1, g3⟩
              have hAk : (AA ++ Puny.ints (x.take k)).length ≤ 30000000 := by
                rw [List.length_append]
                have : (Puny.ints (x.take k)).length ≤ x.length := by simp [Puny.ints]; omega
                omega
              by_cases hk : k < x.length
              · have hkx := ix_at hk
                have hin := ints_take hk
                repeat' (first | simp (disch := first | omega | assumption | decide) only [go_sem, hm, hz, ht, hr_, g12, g13, g14, g5, g41, g42, g3, hkx] | refine ifP_in (fun _ => ?_) (fun _ => ?_))
                refine ⟨k + 1, ⟨rfl, by omega, ?_⟩, by omega⟩
                rw [hin, ← List.append_assoc]
              · have : k = x.length := by omega
                subst this
                rw [List.take_length] at g3
                repeat' (first | simp (disch := first | omega | assumption | decide) only [go_sem, hm, hz, ht, hr_, g12, g13, g14, g5, g41, g42, g3] | refine ifP_in (fun _ => ?_) (fun _ => ?_))
                refine ⟨i + 1, ⟨rfl, ?_, by omega⟩, by omega⟩
                rw [hjn, hun]
        · have htk3 : ¬ x.take 4 = Id.XNb := htk2
          have hun : Id.uni1 x = Puny.ints x := if_neg (fun h => htk3 h.1)
          repeat' (first | simp (disch := first | omega | assumption | decide) only [go_sem, hm, hz, ht, hr_, g12, g13, g14, g3, hix, cutPrefix_we, htk2, h4p, hAA] | refine ifP_in (fun _ => ?_) (fun _ => ?_))
          refine rL_loop (σ := Nat) (fun k e K => e 12 = .sl (p.map AV.str) ∧ e 13 = .i p.length ∧ e 14 = .i i ∧ e 5 = .str x ∧ e 41 = .i x.length ∧ e 42 = .i k ∧ k ≤ x.length ∧ e 3 = .sl ((AA ++ Puny.ints (x.take k)).map iA)) (fun k => x.length - k) 0 ?_ ?_
          · refine ⟨?_, ?_, ?_, ?_, ?_, ?_, by omega, ?_⟩
            all_goals first | (simp (disch := first | assumption | omega) only [go_sem, g12, g13, g14, g3, hAA]; done) | (simp (disch := first | assumption | omega) only [go_sem, g12, g13, g14, g3, hAA]; rfl) | (simp (disch := first | assumption | omega) only [go_sem, g12, g13, g14, g3, hAA]; simp [Puny.ints]; done) | (simp (disch := first | assumption | omega) only [go_sem, g12, g13, g14, g3, hAA]; simp [Puny.ints]; done) | (simp (disch := first | assumption | omega) only [go_sem, g12, g13, g14, g3, hAA]; simp [Puny.ints]; rfl)
          · clear g12 g13 g14 g3
            rintro k e K ⟨g12, g13, g14, g5, g41, g42, k1, g3⟩
            have hAk : (AA ++ Puny.ints (x.take k)).length ≤ 30000000 := by
              rw [List.length_append]
              have : (Puny.ints (x.take k)).length ≤ x.length := by simp [Puny.ints]; omega
              omega
            by_cases hk : k < x.length
            · have hkx := ix_at hk
              have hin := ints_take hk
              repeat' (first | simp (disch := first | omega | assumption | decide) only [go_sem, hm, hz, ht, hr_, g12, g13, g14, g5, g41, g42, g3, hkx] | refine ifP_in (fun _ => ?_) (fun _ => ?_))
              refine ⟨k + 1, ⟨rfl, by omega, ?_⟩, by omega⟩
              rw [hin, ← List.append_assoc]
            · have : k = x.length := by omega
              subst this
              rw [List.take_length] at g3
              repeat' (first | simp (disch := first | omega | assumption | decide) only [go_sem, hm, hz, ht, hr_, g12, g13, g14, g5, g41, g42, g3] | refine ifP_in (fun _ => ?_) (fun _ => ?_))
              refine ⟨i + 1, ⟨rfl, ?_, by omega⟩, by omega⟩
              rw [hjn, hun]
      · have hAA : Sp.join [46] ((p.take i).map Id.uni1) ++ [46] = AA := by rw [hA, if_neg h0]
        clear hA
        generalize Sp.join [46] ((p.take i).map Id.uni1) = B at *
        by_cases htk2 : x.take 4 = [120, 110, 45, 45]
        · have htk3 : x.take 4 = Id.XNb := htk2
          repeat' (first | simp (disch := first | omega | assumption | decide) only [go_sem, hm, hz, ht, hr_, g12, g13, g14, g3, hix, cutPrefix_we, htk2, h4p, hAA] | refine ifP_in (fun _ => ?_) (fun _ => ?_))
          refine rF_use (decode_w (x.drop 4) (by simp; omega)) ?_
          rintro _ K3 ⟨rfl, hp3⟩
          have hdl := Id.decode_len (x.drop 4)
          have hun : Id.uni1 x = if x.take 4 = Id.XNb ∧ (Puny.decode (x.drop 4)).2 = 0 then (Puny.decode (x.drop 4)).1 else Puny.ints x := rfl
          generalize (Puny.decode (x.drop 4)).1 = u at *
          generalize (Puny.decode (x.drop 4)).2 = er at *
          by_cases h0 : er = 0
          · subst h0
            rw [if_pos ⟨htk3, rfl⟩] at hun
            repeat' (first | simp (disch := first | omega | assumption | decide) only [go_sem, hm, hz, ht, hr_, g12, g13, g14, g3, hix, hAA] | refine ifP_in (fun _ => ?_) (fun _ => ?_))
            refine ⟨i + 1, ⟨rfl, ?_, by omega⟩, by omega⟩
            rw [hjn, hun]
          · rw [if_neg (fun h => h0 h.2)] at hun
            repeat' (first | simp (disch := first | omega | assumption | decide) only [go_sem, hm, hz, ht, hr_, g12, g13, g14, g3, hix, hAA] | refine ifP_in (fun _ => ?_) (fun _ => ?_))
            refine rL_loop (σ := Nat) (fun k e K => e 12 = .sl (p.map AV.str) ∧ e 13 = .i p.length ∧ e 14 = .i i ∧ e 5 = .str x ∧ e 41 = .i x.length ∧ e 42 = .i k ∧ k ≤ x.length ∧ e 3 = .sl ((AA ++ Puny.ints (x.take k)).map iA)) (fun k => x.length - k) 0 ?_ ?_
            · refine ⟨?_, ?_, ?_, ?_, ?_, ?_, by omega, ?_⟩
              all_goals first | (simp (disch := first | assumption | omega) only [go_sem, g12, g13, g14, g3, hAA]; done) | (simp (disch := first | assumption | omega) only [go_sem, g12, g13, g14, g3, hAA]; rfl) | (simp (disch := first | assumption | omega) only [go_sem, g12, g13, g14, g3, hAA]; simp [Puny.ints]; done) | (simp (disch := first | assumption | omega) only [go_sem, g12, g13, g14, g3, hAA]; simp [Puny.ints]; done) | (simp (disch := first | assumption | omega) only [go_sem, g12, g13, g14, g3, hAA]; simp [Puny.ints]; rfl)
            · clear g12 g13 g14 g3
              rintro k e K ⟨g12, g13, g14, g5, g41, g42, k1, g3⟩
              have hAk : (AA ++ Puny.ints (x.take k)).length ≤ 30000000 := by
                rw [List.length_append]
                have : (Puny.ints (x.take k)).length ≤ x.length := by simp [Puny.ints]; omega
                omega
              by_cases hk : k < x.length
              · have hkx := ix_at hk
                have hin := ints_take hk
                repeat' (first | simp (disch := first | omega | assumption | decide) only [go_sem, hm, hz, ht, hr_, g12, g13, g14, g5, g41, g42, g3, hkx] | refine ifP_in (fun _ => ?_) (fun _ => ?_))
                refine ⟨k + 1, ⟨rfl, by omega, ?_⟩, by omega⟩
                rw [hin, ← List.append_assoc]
              · have : k = x.length := by omega
                subst this
                rw [List.take_length] at g3
                repeat' (first | simp (disch := first | omega | assumption | decide) only [go_sem, hm, hz, ht, hr_, g12, g13, g14, g5, g41, g42, g3] | refine ifP_in (fun _ => ?_) (fun _ => ?_))
                refine ⟨i + 1, ⟨rfl, ?_, by omega⟩, by omega⟩
                rw [hjn, hun]
        · have htk3 : ¬ x.take 4 = Id.XNb := htk2
          have hun : Id.uni1 x = Puny.ints x := if_neg (fun h => htk3 h.1)
          repeat' (first | simp (disch := first | omega | assumption | decide) only [go_sem, hm, hz, ht, hr_, g12, g13, g14, g3, hix, cutPrefix_we, htk2, h4p, hAA] | refine ifP_in (fun _ => ?_) (fun _ => ?_))
          refine rL_loop (σ := Nat) (fun k e K => e 12 = .sl (p.map AV.str) ∧ e 13 = .i p.length ∧ e 14 = .i i ∧ e 5 = .str x ∧ e 41 = .i x.length ∧ e 42 = .i k ∧ k ≤ x.length ∧ e 3 = .sl ((AA ++ Puny.ints (x.take k)).map iA)) (fun k => x.length - k) 0 ?_ ?_
          · refine ⟨?_, ?_, ?_, ?_, ?_, ?_, by omega, ?_⟩
            all_goals first | (simp (disch := first | assumption | omega) only [go_sem, g12, g13, g14, g3, hAA]; done) | (simp (disch := first | assumption | omega) only [go_sem, g12, g13, g14, g3, hAA]; rfl) | (simp (disch := first | assumption | omega) only [go_sem, g12, g13, g14, g3, hAA]; simp [Puny.ints]; done) | (simp (disch := first | assumption | omega) only [go_sem, g12, g13, g14, g3, hAA]; simp [Puny.ints]; done) | (simp (disch := first | assumption | omega) only [go_sem, g12, g13, g14, g3, hAA]; simp [Puny.ints]; rfl)
          · clear g12 g13 g14 g3
            rintro k e K ⟨g12, g13, g14, g5, g41, g42, k1, g3⟩
            have hAk : (AA ++ Puny.ints (x.take k)).length ≤ 30000000 := by
              rw [List.length_append]
              have : (Puny.ints (x.take k)).length ≤ x.length := by simp [Puny.ints]; omega
              omega
            by_cases hk : k < x.length
            · have hkx := ix_at hk
              have hin := ints_take hk
              repeat' (first | simp (disch := first | omega | assumption | decide) only [go_sem, hm, hz, ht, hr_, g12, g13, g14, g5, g41, g42, g3, hkx] | refine ifP_in (fun _ => ?_) (fun _ => ?_))
              refine ⟨k + 1, ⟨rfl, by omega, ?_⟩, by omega⟩
              rw [hin, ← List.append_assoc]
            · have : k = x.length := by omega
              subst this
              rw [List.take_length] at g3
              repeat' (first | simp (disch := first | omega | assumption | decide) only [go_sem, hm, hz, ht, hr_, g12, g13, g14, g5, g41, g42, g3] | refine ifP_in (fun _ => ?_) (fun _ => ?_))
              refine ⟨i + 1, ⟨rfl, ?_, by omega⟩, by omega⟩
              rw [hjn, hun]
    · have : i = p.length := by omega
      subst this
      rw [List.take_length] at g3
      repeat' (first | simp (disch := first | omega | assumption | decide) only [go_sem, hm, hz, ht, hr_, g12, g13, g14, g3] | refine ifP_in (fun _ => ?_) (fun _ => ?_))
theorem split_re8 : AV.v (.int .u8 46) = byteA 46 := rfl
theorem toUni_r (s : List UInt8) (hs : s.length ≤ 5000) : WF Tryd.prog cfg 13 [.str s] H (fun r H' => r = .sl ((Id.toUni s).map iA)) := by
  have hm : ∀ d, cfg.muF 13 d = (false) := fun _ => rfl
  have hz : ∀ d, cfg.fzF 13 d = (false) := fun _ => rfl
  have ht : ∀ d, cfg.tkF 13 d = (false) := fun _ => rfl
  have hr_ : ∀ g, cfg.raw g = (g == 60 || g == 63) := fun _ => rfl
  refine rF_fn rfl rfl Tryd.func13 rfl ?_
  repeat' (first | simp (disch := first | omega | assumption | decide) only [go_sem, hm, hz, ht, hr_, split_re8, split_re] | refine ifP_in (fun _ => ?_) (fun _ => ?_))
  have hsl := Sp.split_len_le (c := 46) s
  have hsp := Sp.split_part_len (c := 46) s
  have hun : Id.toUni s = Sp.join [46] ((Sp.split 46 s).map Id.uni1) := rfl
  rw [hun]
  clear hun
  generalize Sp.split 46 s = p at *
  have hjl := fun i => joined_len p i (fun x hx => by have := hsp x hx; omega) (by omega)
  have h4p : ([120, 110, 45, 45] : List UInt8).length = 4 := rfl
  refine rL_loop (σ := Nat) (fun i e H' => e 3 = .sl (p.map AV.str) ∧ e 5 = .i i ∧ e 4 = .sl ((Sp.join [46] ((p.take i).map Id.uni1)).map iA) ∧ i ≤ p.length) (fun i => p.length - i) 0 ?_ ?_
  · refine ⟨?_, ?_, ?_, by omega⟩
    all_goals first | (simp (disch := first | assumption | omega) only [go_sem]; done) | (simp (disch := first | assumption | omega) only [go_sem]; rfl)
  · rintro i e K ⟨g3, g5, g4, i1⟩
    by_cases hi : i < p.length
    · have hix := ix_at hi
      have hjn := joined p i hi
      have hji := hjl i
      have hxl := hsp _ (List.getElem_mem hi)
      obtain ⟨AA, hA⟩ : ∃ A, A = (if i = 0 then [] else Sp.join [46] ((p.take i).map Id.uni1) ++ [46]) := ⟨_, rfl⟩
      rw [← hA] at hjn
      have hAl : AA.length ≤ 26500000 := by
        rw [hA]; split
        · simp
        · rw [List.length_append, List.length_singleton]; omega
      generalize p[i] = x at *
      by_cases h0 : i = 0
      · have hj0 : Sp.join [46] ((p.take i).map Id.uni1) = AA := by rw [hA, if_pos h0, h0]; rfl
        rw [hj0] at g4
        clear hA hj0
        have hAA : (0 : Int) = 0 := rfl
        by_cases htk2 : x.take 4 = [120, 110, 45, 45]
        · have htk3 : x.take 4 = Id.XNb := htk2
          have hx4 : 4 ≤ x.length := by have := congrArg List.length htk2; simp at this; omega
          repeat' (first | simp (disch := first | omega | assumption | decide) only [go_sem, hm, hz, ht, hr_, g3, g5, g4, hix, marked_re, htk3, h4p, hAA] | refine ifP_in (fun _ => ?_) (fun _ => ?_))
          refine rF_use (unpuny_r (x.drop 4) (by simp; omega)) ?_
          rintro _ K3 ⟨rfl, hp3⟩
          have hdl := Id.decode_len (x.drop 4)
          have hun : Id.uni1 x = if x.take 4 = Id.XNb ∧ (Puny.decode (x.drop 4)).2 = 0 then (Puny.decode (x.drop 4)).1 else Puny.ints x := rfl
          generalize (Puny.decode (x.drop 4)).1 = u at *
          generalize (Puny.decode (x.drop 4)).2 = er at *
          by_cases h0 : er = 0
          · subst h0
            rw [if_pos ⟨htk3, rfl⟩] at hun
            repeat' (first | simp (disch := first | omega | assumption | decide) only [go_sem, hm, hz, ht, hr_, g3, g5, g4, hix, hAA] | refine ifP_in (fun _ => ?_) (fun _ => ?_))
            refine ⟨i + 1, ⟨rfl, ?_, by omega⟩, by omega⟩
            rw [hjn, hun]
          · rw [if_neg (fun h => h0 h.2)] at hun
            repeat' (first | simp (disch := first | omega | assumption | decide) only [go_sem, hm, hz, ht, hr_, g3, g5, g4, hix, hAA] | refine ifP_in (fun _ => ?_) (fun _ => ?_))
            refine rL_loop (σ := Nat) (fun k e K => e 3 = .sl (p.map AV.str) ∧ e 5 = .i i ∧ e 8 = .i k ∧ k ≤ x.length ∧ e 4 = .sl ((AA ++ Puny.ints (x.take k)).map iA)) (fun k => x.length - k) 0 ?_ ?_
            · refine ⟨?_, ?_, ?_, by omega, ?_⟩
              all_goals first | (simp (disch := first | assumption | omega) only [go_sem, g3, g5, g4, hAA]; done) | (simp (disch := first | assumption | omega) only [go_sem, g3, g5, g4, hAA]; rfl) | (simp (disch := first | assumption | omega) only [go_sem, g3, g5, g4, hAA]; simp [Puny.ints]; done) | (simp (disch := first | assumption | omega) only [go_sem, g3, g5, g4, hAA]; simp [Puny.ints]; done) | (simp (disch := first | assumption | omega) only [go_sem, g3, g5, g4, hAA]; simp [Puny.ints]; rfl)
            · clear g3 g5 g4
              rintro k e K ⟨g3, g5, g8, k1, g4⟩
              have hAk : (AA ++ Puny.ints (x.take k)).length ≤ 30000000 := by
                rw [List.length_append]
                have : (Puny.ints (x.take k)).length ≤ x.length := by simp [Puny.ints]; omega
                omega
              by_cases hk : k < x.length
              · have hkx := ix_at hk
                have hin := ints_take hk
                repeat' (first | simp (disch := first | omega | assumption | decide) only [go_sem, hm, hz, ht, hr_, g3, g5, g8, g4, hix, hkx] | refine ifP_in (fun _ => ?_) (fun _ => ?_))
                refine ⟨k + 1, ⟨rfl, by omega, ?_⟩, by omega⟩
                rw [hin, ← List.append_assoc]
              · have : k = x.length := by omega
                subst this
                rw [List.take_length] at g4
                repeat' (first | simp (disch := first | omega | assumption | decide) only [go_sem, hm, hz, ht, hr_, g3, g5, g8, g4, hix] | refine ifP_in (fun _ => ?_) (fun _ => ?_))
                refine ⟨i + 1, ⟨rfl, ?_, by omega⟩, by omega⟩
                rw [hjn, hun]
        · have htk3 : ¬ x.take 4 = Id.XNb := htk2
          have hun : Id.uni1 x = Puny.ints x := if_neg (fun h => htk3 h.1)
          repeat' (first | simp (disch := first | omega | assumption | decide) only [go_sem, hm, hz, ht, hr_, g3, g5, g4, hix, marked_re, htk3, h4p, hAA] | refine ifP_in (fun _ => ?_) (fun _ => ?_))
          refine rL_loop (σ := Nat) (fun k e K => e 3 = .sl (p.map AV.str) ∧ e 5 = .i i ∧ e 8 = .i k ∧ k ≤ x.length ∧ e 4 = .sl ((AA ++ Puny.ints (x.take k)).map iA)) (fun k => x.length - k) 0 ?_ ?_
          · refine ⟨?_, ?_, ?_, by omega, ?_⟩
            all_goals first | (simp (disch := first | assumption | omega) only [go_sem, g3, g5, g4, hAA]; done) | (simp (disch := first | assumption | omega) only [go_sem, g3, g5, g4, hAA]; rfl) | (simp (disch := first | assumption | omega) only [go_sem, g3, g5, g4, hAA]; simp [Puny.ints]; done) | (simp (disch := first | assumption | omega) only [go_sem, g3, g5, g4, hAA]; simp [Puny.ints]; done) | (simp (disch := first | assumption | omega) only [go_sem, g3, g5, g4, hAA]; simp [Puny.ints]; rfl)
          · clear g3 g5 g4
            rintro k e K ⟨g3, g5, g8, k1, g4⟩
            have hAk : (AA ++ Puny.ints (x.take k)).length ≤ 30000000 := by
              rw [List.length_append]
              have : (Puny.ints (x.take k)).length ≤ x.length := by simp [Puny.ints]; omega
              omega
            by_cases hk : k < x.length
            · have hkx := ix_at hk
              have hin := ints_take hk
              repeat' (first | simp (disch := first | omega | assumption | decide) only [go_sem, hm, hz, ht, hr_, g3, g5, g8, g4, hix, hkx] | refine ifP_in (fun _ => ?_) (fun _ => ?_))
              refine ⟨k + 1, ⟨rfl, by omega, ?_⟩, by omega⟩
              rw [hin, ← List.append_assoc]
            · have : k = x.length := by omega
              subst this
              rw [List.take_length] at g4
              repeat' (first | simp (disch := first | omega | assumption | decide) only [go_sem, hm, hz, ht, hr_, g3, g5, g8, g4, hix] | refine ifP_in (fun _ => ?_) (fun _ => ?_))
              refine ⟨i + 1, ⟨rfl, ?_, by omega⟩, by omega⟩
              rw [hjn, hun]
      · have hAA : Sp.join [46] ((p.take i).map Id.uni1) ++ [46] = AA := by rw [hA, if_neg h0]
        clear hA
        generalize Sp.join [46] ((p.take i).map Id.uni1) = B at *
        by_cases htk2 : x.take 4 = [120, 110, 45, 45]
        · have htk3 : x.take 4 = Id.XNb := htk2
          have hx4 : 4 ≤ x.length := by have := congrArg List.length htk2; simp at this; omega
          repeat' (first | simp (disch := first | omega | assumption | decide) only [go_sem, hm, hz, ht, hr_, g3, g5, g4, hix, marked_re, htk3, h4p, hAA] | refine ifP_in (fun _ => ?_) (fun _ => ?_))
          refine rF_use (unpuny_r (x.drop 4) (by simp; omega)) ?_
          rintro _ K3 ⟨rfl, hp3⟩
          have hdl := Id.decode_len (x.drop 4)
          have hun : Id.uni1 x = if x.take 4 = Id.XNb ∧ (Puny.decode (x.drop 4)).2 = 0 then (Puny.decode (x.drop 4)).1 else Puny.ints x := rfl
          generalize (Puny.decode (x.drop 4)).1 = u at *
          generalize (Puny.decode (x.drop 4)).2 = er at *
          by_cases h0 : er = 0
          · subst h0
            rw [if_pos ⟨htk3, rfl⟩] at hun
            repeat' (first | simp (disch := first | omega | assumption | decide) only [go_sem, hm, hz, ht, hr_, g3, g5, g4, hix, hAA] | refine ifP_in (fun _ => ?_) (fun _ => ?_))
            refine ⟨i + 1, ⟨rfl, ?_, by omega⟩, by omega⟩
            rw [hjn, hun]
          · rw [if_neg (fun h => h0 h.2)] at hun
            repeat' (first | simp (disch := first | omega | assumption | decide) only [go_sem, hm, hz, ht, hr_, g3, g5, g4, hix, hAA] | refine ifP_in (fun _ => ?_) (fun _ => ?_))
            refine rL_loop (σ := Nat) (fun k e K => e 3 = .sl (p.map AV.str) ∧ e 5 = .i i ∧ e 8 = .i k ∧ k ≤ x.length ∧ e 4 = .sl ((AA ++ Puny.ints (x.take k)).map iA)) (fun k => x.length - k) 0 ?_ ?_
            · refine ⟨?_, ?_, ?_, by omega, ?_⟩
              all_goals first | (simp (disch := first | assumption | omega) only [go_sem, g3, g5, g4, hAA]; done) | (simp (disch := first | assumption | omega) only [go_sem, g3, g5, g4, hAA]; rfl) | (simp (disch := first | assumption | omega) only [go_sem, g3, g5, g4, hAA]; simp [Puny.ints]; done) | (simp (disch := first | assumption | omega) only [go_sem, g3, g5, g4, hAA]; simp [Puny.ints]; done) | (simp (disch := first | assumption | omega) only [go_sem, g3, g5, g4, hAA]; simp [Puny.ints]; rfl)
            · clear g3 g5 g4
              rintro k e K ⟨g3, g5, g8, k1, g4⟩
              have hAk : (AA ++ Puny.ints (x.take k)).length ≤ 30000000 := by
                rw [List.length_append]
                have : (Puny.ints (x.take k)).length ≤ x.length := by simp [Puny.ints]; omega
                omega
              by_cases hk : k < x.length
              · have hkx := ix_at hk
                have hin := ints_take hk
                repeat' (first | simp (disch := first | omega | assumption | decide) only [go_sem, hm, hz, ht, hr_, g3, g5, g8, g4, hix, hkx] | refine ifP_in (fun _ => ?_) (fun _ => ?_))
                refine ⟨k + 1, ⟨rfl, by omega, ?_⟩, by omega⟩
                rw [hin, ← List.append_assoc]
              · have : k = x.length := by omega
                subst this
                rw [List.take_length] at g4
                repeat' (first | simp (disch := first | omega | assumption | decide) only [go_sem, hm, hz, ht, hr_, g3, g5, g8, g4, hix] | refine ifP_in (fun _ => ?_) (fun _ => ?_))
                refine ⟨i + 1, ⟨rfl, ?_, by omega⟩, by omega⟩
                rw [hjn, hun]
        · have htk3 : ¬ x.take 4 = Id.XNb := htk2
          have hun : Id.uni1 x = Puny.ints x := if_neg (fun h => htk3 h.1)
          repeat' (first | simp (disch := first | omega | assumption | decide) only [go_sem, hm, hz, ht, hr_, g3, g5, g4, hix, marked_re, htk3, h4p, hAA] | refine ifP_in (fun _ => ?_) (fun _ => ?_))
          refine rL_loop (σ := Nat) (fun k e K => e 3 = .sl (p.map AV.str) ∧ e 5 = .i i ∧ e 8 = .i k ∧ k ≤ x.length ∧ e 4 = .sl ((AA ++ Puny.ints (x.take k)).map iA)) (fun k => x.length - k) 0 ?_ ?_
          · refine ⟨?_, ?_, ?_, by omega, ?_⟩
            all_goals first | (simp (disch := first | assumption | omega) only [go_sem, g3, g5, g4, hAA]; done) | (simp (disch := first | assumption | omega) only [go_sem, g3, g5, g4, hAA]; rfl) | (simp (disch := first | assumption | omega) only [go_sem, g3, g5, g4, hAA]; simp [Puny.ints]; done) | (simp (disch := first | assumption | omega) only [go_sem, g3, g5, g4, hAA]; simp [Puny.ints]; done) | (simp (disch := first | assumption | omega) only [go_sem, g3, g5, g4, hAA]; simp [Puny.ints]; rfl)
          · clear g3 g5 g4
            rintro k e K ⟨g3, g5, g8, k1, g4⟩
            have hAk : (AA ++ Puny.ints (x.take k)).length ≤ 30000000 := by
              rw [List.length_append]
              have : (Puny.ints (x.take k)).length ≤ x.length := by simp [Puny.ints]; omega
              omega
            by_cases hk : k < x.length
            · have hkx := ix_at hk
              have hin := ints_take hk
              repeat' (first | simp (disch := first | omega | assumption | decide) only [go_sem, hm, hz, ht, hr_, g3, g5, g8, g4, hix, hkx] | refine ifP_in (fun _ => ?_) (fun _ => ?_))
              refine ⟨k + 1, ⟨rfl, by omega, ?_⟩, by omega⟩
              rw [hin, ← List.append_assoc]
            · have : k = x.length := by omega
              subst this
              rw [List.take_length] at g4
              repeat' (first | simp (disch := first | omega | assumption | decide) only [go_sem, hm, hz, ht, hr_, g3, g5, g8, g4, hix] | refine ifP_in (fun _ => ?_) (fun _ => ?_))
              refine ⟨i + 1, ⟨rfl, ?_, by omega⟩, by omega⟩
              rw [hjn, hun]
    · have : i = p.length := by omega
      subst this
      rw [List.take_length] at g4
      repeat' (first | simp (disch := first | omega | assumption | decide) only [go_sem, hm, hz, ht, hr_, g3, g5, g4] | refine ifP_in (fun _ => ?_) (fun _ => ?_))
end In
end Go.Proofs
