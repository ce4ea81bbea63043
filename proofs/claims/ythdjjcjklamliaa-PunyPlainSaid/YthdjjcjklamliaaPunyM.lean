/- Walks through the laws on unlike signs and plain signs. -/
import Derived.Test.YthdjjcjklamliaaPunyL
import Derived.Test.YthdjjcjklamliaaPunyRound
set_option linter.unusedVariables false
set_option linter.unusedSimpArgs false
namespace Go.Proofs
open Go.Lv
namespace Pu
variable {H : Heap}

theorem order_all (a b : List Int) (ha : a.length ≤ 140737488355328) (hb : b.length ≤ 140737488355328) : WF Try.prog cfg 6 [.sl (a.map iA), .sl (b.map iA)] H (fun r H' => r = .b true) :=
  order_w a b ha hb Puny.encode_inj

theorem plain_w (s : List UInt8) (hs : s.length ≤ 140737488355328) : WF Try.prog cfg 5 [.str s] H (fun r H' => r = .b true) := by
  have hm : ∀ d, cfg.muF 5 d = (false) := fun _ => rfl
  have hz : ∀ d, cfg.fzF 5 d = (false) := fun _ => rfl
  refine rF_fn rfl rfl Try.func5 rfl ?_
  repeat' (first | simp (disch := first | omega | assumption | decide) only [go_sem, hm, hz] | refine ifP_in (fun _ => ?_) (fun _ => ?_))
  refine rF_use first_w ?_
  rintro _ H1 ⟨rfl, hp⟩
  clear hp
  by_cases hbig : 256 < s.length
  · repeat' (first | simp (disch := first | omega | assumption | decide) only [go_sem, hm, hz] | refine ifP_in (fun _ => ?_) (fun _ => ?_))
    refine rF_use first_w ?_
    rintro _ H1 ⟨rfl, hp⟩
    repeat' (first | simp (disch := first | omega | assumption | decide) only [go_sem, hm, hz] | refine ifP_in (fun _ => ?_) (fun _ => ?_))
  · repeat' (first | simp (disch := first | omega | assumption | decide) only [go_sem, hm, hz] | refine ifP_in (fun _ => ?_) (fun _ => ?_))
    refine rL_loop (σ := Nat) (fun i e H' => e 0 = .str s ∧ e 4 = .i i ∧ i ≤ s.length ∧ e 3 = .sl ((Puny.ints (s.take i)).map iA) ∧ ∀ c ∈ s.take i, c.toNat < 128) (fun i => s.length - i) 0 ?_ ?_
    · exact ⟨(by simp (disch := first | omega | assumption | decide) only [go_sem, *] <;> rfl), (by simp (disch := first | omega | assumption | decide) only [go_sem, *] <;> rfl), by omega, (by simp (disch := first | omega | assumption | decide) only [go_sem, *] <;> rfl), by simp⟩
    · rintro i e H1 ⟨g0, g4, gi, g3, ga⟩
      by_cases hil : i < s.length
      · have hlen : (Puny.ints (s.take i)).length ≤ 256 := by simp [Puny.ints]; omega
        repeat' (first | simp (disch := first | omega | assumption | decide) only [go_sem, hm, hz, g0, g3, g4] | refine ifP_in (fun _ => ?_) (fun _ => ?_))
        · refine rF_use first_w ?_
          rintro _ H1 ⟨rfl, hp⟩
          repeat' (first | simp (disch := first | omega | assumption | decide) only [go_sem, hm, hz] | refine ifP_in (fun _ => ?_) (fun _ => ?_))
        · rename_i hle
          refine ⟨i + 1, ⟨rfl, by omega, ?_, ?_⟩, by omega⟩
          · unfold Puny.ints
            rw [bytes_take hil]
          · intro c hc
            rw [List.take_add_one, List.getElem?_eq_getElem hil] at hc
            have hix : ix s (i : Int) = s[i] := by simp [ix, List.getD_eq_getElem?_getD, List.getElem?_eq_getElem hil]
            rcases List.mem_append.1 hc with h | h
            · exact ga c h
            · simp at h; subst h; rw [hix] at hle; omega
      · obtain rfl : i = s.length := by omega
        rw [List.take_length] at g3 ga
        have he := Puny.encode_plain ga (by omega)
        have hdl : (Puny.dash s).length ≤ 257 := by unfold Puny.dash; split <;> first | omega | (simp; omega)
        have hd := Puny.decode_encode (l := Puny.ints s) (by rw [he])
        rw [he] at hd
        have hlen : (Puny.ints s).length = s.length := by simp [Puny.ints]
        repeat' (first | simp (disch := first | omega | assumption | decide) only [go_sem, hm, hz, g0, g3, g4] | refine ifP_in (fun _ => ?_) (fun _ => ?_))
        refine rF_use (encode_w (Puny.ints s) (by omega)) ?_
        rintro _ H1 ⟨rfl, rfl⟩
        rw [he]
        repeat' (first | simp (disch := first | omega | assumption | decide) only [go_sem, hm, hz, g0, g3, g4] | refine ifP_in (fun _ => ?_) (fun _ => ?_))
        refine rF_use (decode_w (Puny.dash s) (by omega)) ?_
        rintro _ H1 ⟨rfl, hp⟩
        rw [hd]
        repeat' (first | simp (disch := first | omega | assumption | decide) only [go_sem, hm, hz, g0, g3, g4] | refine ifP_in (fun _ => ?_) (fun _ => ?_))
        refine rF_use (decode_w [45] (by decide)) ?_
        rintro _ H1 ⟨rfl, hp⟩
        rw [Puny.decode_dash]
        by_cases h0 : s.length = 0
        · obtain rfl : s = [] := List.eq_nil_of_length_eq_zero h0
          repeat' (first | simp (disch := first | omega | assumption | decide) only [go_sem, hm, hz, g0, g3, g4] | refine ifP_in (fun _ => ?_) (fun _ => ?_))
          refine rF_use first_w ?_
          rintro _ H1 ⟨rfl, hp⟩
          repeat' (first | simp (disch := first | omega | assumption | decide) only [go_sem, hm, hz, g0, g3, g4] | refine ifP_in (fun _ => ?_) (fun _ => ?_))
        · have hda : Puny.dash s = s ++ [45] := by unfold Puny.dash; rw [if_neg h0]
          rw [hda]
          have h45 : ([45] : List UInt8).length = 1 := rfl
          repeat' (first | simp (disch := first | omega | assumption | decide) only [go_sem, hm, hz, g0, g3, g4] | refine ifP_in (fun _ => ?_) (fun _ => ?_))
          refine rF_use first_w ?_
          rintro _ H1 ⟨rfl, hp⟩
          repeat' (first | simp (disch := first | omega | assumption | decide) only [go_sem, hm, hz, g0, g3, g4] | refine ifP_in (fun _ => ?_) (fun _ => ?_))
          refine rF_use (ints_w (Puny.ints s) (Puny.ints s) (by omega) (by omega)) ?_
          rintro _ H1 ⟨rfl, rfl⟩
          repeat' (first | simp (disch := first | omega | assumption | decide) only [go_sem, hm, hz, g0, g3, g4] | refine ifP_in (fun _ => ?_) (fun _ => ?_))
end Pu
end Go.Proofs
