/- The walk through the law: what was appended stays. -/
import Derived.Test.YticlhjamafdmfaaDkAllbx0
import Derived.Test.YticlhjamafdmfaaJlInv
import Derived.Test.YticlhjamafdmfaaJrAlldx0
set_option linter.unusedVariables false
set_option linter.unusedSimpArgs false
namespace Go.Proofs
open Go.Lv
namespace Jn
open Dk (Files Bs Ch Ev)
variable {H : Heap}

theorem records_w {jl j : Nat} {S : List Nat} {n : Bs} {l : Jl.Log} {s : Dk.Disk} (h : LogAt H jl j S n l s) (hl : l.recs.length < 1000000) (hs : ∀ p ∈ l.recs, p.length ≤ 1000000000) :
    WF Try.prog cfg 29 [.ptr jl 0] H (fun r H' => TokOf AV.bytes 1 H.length H' r l.recs ∧ H <+: H') := by
  obtain ⟨pr, Sd, hL, rfl⟩ := h
  have hl1 := hL.hl
  have hm : ∀ d, cfg.muF 29 d = (false) := fun _ => rfl
  have hz : ∀ d, cfg.fzF 29 d = (false) := fun _ => rfl
  have ht : ∀ d, cfg.tkF 29 d = (false) := fun _ => rfl
  have hr_ : ∀ g, cfg.raw g = (g == 58 || g == 69) := fun _ => rfl
  refine rF_fn rfl rfl Try.func29 rfl ?_
  repeat' (first | simp (disch := first | omega | assumption | decide) only [go_sem, hm, hz, ht, hr_, hl1, store_ptr, get_end_, get_old_, get_set_self_, get_set_ne_, len_set_, len_add_, bind_some_, map_some_, oneD_fold] | refine ifP_in (fun _ => ?_) (fun _ => ?_))
  rw [hL.recs.plain]
  refine rF_use (jcopied_w l.recs hl hs) ?_
  rintro a H1 ⟨h1, h2⟩
  repeat' (first | simp (disch := first | omega | assumption | decide) only [go_sem, hm, hz, ht, hr_, store_ptr, get_end_, get_old_, get_set_self_, get_set_ne_, len_set_, len_add_, bind_some_, map_some_, oneD_fold] | refine ifP_in (fun _ => ?_) (fun _ => ?_))
  exact ⟨h1, h2⟩
theorem pre_grew {H H' : Heap} (hp : H <+: H') : ∀ x, x < H.length → H'[x]? = H[x]? := fun x hx => by
  obtain ⟨G, rfl⟩ := hp
  exact List.getElem?_append_left hx
theorem str_LOG : AV.str [108, 111, 103] = AV.str Jl.LOG := rfl

theorem LogAt.grew {H' : Heap} {jl j : Nat} {S : List Nat} {n : Bs} {l : Jl.Log} {s : Dk.Disk} (h : LogAt H jl j S n l s) (he : ∀ x, x < H.length → H'[x]? = H[x]?) (hl : H.length ≤ H'.length) : LogAt H' jl j S n l s := by
  obtain ⟨pr, Sd, hL, rfl⟩ := h
  exact ⟨pr, Sd, (hL.step (hL.disk.grew he) (Step.grew hl he)).1, rfl⟩
theorem append_ev {P : Program} {q : List Ev} (y : Ev) {el el' : TypeId} [h : SizeIs P el 4] : appendD P (some (.slice el)) (some (.slice el')) (.sl (q.map evA)) (.sl [.agg [.i y.at_, .i y.kind, .i y.keep, .i y.torn]]) = roomD 4 (sizeT P el) (bytesT P el) (zeroA P el) (q.length + 1) (.sl ((q ++ [y]).map evA)) := append_one (f := evA) (y := y)
theorem safe_w (room : Int) (l : List Bs) (plan : List Ev) (keep torn : Int) (hl : l.length ≤ 140737488355328) (hs : ∀ p ∈ l, p.length ≤ 140737488355328) (hpl : plan.length ≤ 140737488355328) :
    WF Try.prog cfg 6 [.i room, .sl (l.map AV.bytes), .sl (plan.map evA), .i keep, .i torn] H (fun r H' => r = .b true) := by
  have hm : ∀ d, cfg.muF 6 d = (false) := fun _ => rfl
  have hz : ∀ d, cfg.fzF 6 d = (false) := fun _ => rfl
  have ht : ∀ d, cfg.tkF 6 d = (false) := fun _ => rfl
  have hr_ : ∀ g, cfg.raw g = (g == 58 || g == 69) := fun _ => rfl
  refine rF_fn rfl rfl Try.func6 rfl ?_
  repeat' (first | simp (disch := first | omega | assumption | decide) only [go_sem, hm, hz, ht, hr_, store_ptr, get_end_, get_old_, get_set_self_, get_set_ne_, len_set_, len_add_, bind_some_, map_some_, oneD_fold] | refine ifP_in (fun _ => ?_) (fun _ => ?_))
  refine rF_use first23_w ?_
  rintro _ H1 ⟨rfl, h⟩
  have h := h.symm
  subst h
  by_cases hroom : 0 ≤ room ∧ room ≤ 1073741824
  · repeat' (first | simp (disch := first | omega | assumption | decide) only [go_sem, hm, hz, ht, hr_, store_ptr, get_end_, get_old_, get_set_self_, get_set_ne_, len_set_, len_add_, bind_some_, map_some_, oneD_fold] | refine ifP_in (fun _ => ?_) (fun _ => ?_))
    refine rF_use (new_w room hroom) ?_
    rintro _ H2 ⟨rfl, ⟨S2, hd2, hn2⟩, hp2⟩
    obtain ⟨j, hj⟩ : ∃ j, j = H.length + 2 := ⟨_, rfl⟩
    rw [← hj] at hd2 ⊢
    repeat' (first | simp (disch := first | omega | assumption | decide) only [go_sem, hm, hz, ht, hr_, store_ptr, get_end_, get_old_, get_set_self_, get_set_ne_, len_set_, len_add_, bind_some_, map_some_, oneD_fold] | refine ifP_in (fun _ => ?_) (fun _ => ?_))
    refine rF_use (texts_w l hl hs) ?_
    rintro _ H3 ⟨t, rfl, h, htx⟩
    have h := h.symm
    subst h
    by_cases hgo : t = true ∧ plan.length ≤ 40
    · obtain ⟨rfl, hp40⟩ := hgo
      obtain ⟨hl60, htot⟩ := htx rfl
      repeat' (first | simp (disch := first | omega | assumption | decide) only [go_sem, hm, hz, ht, hr_, store_ptr, get_end_, get_old_, get_set_self_, get_set_ne_, len_set_, len_add_, bind_some_, map_some_, oneD_fold] | refine ifP_in (fun _ => ?_) (fun _ => ?_))
      refine rL_loop (σ := Nat) (fun i e K => K = H2 ∧ e 1 = .sl (l.map AV.bytes) ∧ e 2 = .sl (plan.map evA) ∧ e 3 = .i keep ∧ e 4 = .i torn ∧ e 11 = .ptr j 0 ∧ e 13 = .i i ∧ i ≤ plan.length ∧ ∀ x ∈ plan.take i, x.kind ≠ 3) (fun i => plan.length - i) 0 ?_ ?_
      · refine ⟨rfl, ?_, ?_, ?_, ?_, ?_, ?_, by omega, by simp⟩
        all_goals first | (simp (disch := first | assumption | omega) only [go_sem]; done) | (simp (disch := first | assumption | omega) only [go_sem]; rfl)
      · rintro i e K ⟨hK, g1, g2, g3, g4, g11, g13, i1, i2⟩
        have hK := hK.symm
        subst hK
        by_cases hi : i < plan.length
        · have hix := ixg hi
          have hcx : (evA plan[i]).cells = [.i plan[i].at_, .i plan[i].kind, .i plan[i].keep, .i plan[i].torn] := rfl
          by_cases hk3 : plan[i].kind = 3
          · repeat' (first | simp (disch := first | omega | assumption | decide) only [go_sem, hm, hz, ht, hr_, g1, g2, g3, g4, g11, g13, hix, hcx, hk3, store_ptr, get_end_, get_old_, get_set_self_, get_set_ne_, len_set_, len_add_, bind_some_, map_some_, oneD_fold] | refine ifP_in (fun _ => ?_) (fun _ => ?_))
            refine rF_use first23_w ?_
            rintro _ H4 ⟨rfl, h⟩
            repeat' (first | simp (disch := first | omega | assumption | decide) only [go_sem, hm, hz, ht, hr_, store_ptr, get_end_, get_old_, get_set_self_, get_set_ne_, len_set_, len_add_, bind_some_, map_some_, oneD_fold] | refine ifP_in (fun _ => ?_) (fun _ => ?_))
          · repeat' (first | simp (disch := first | omega | assumption | decide) only [go_sem, hm, hz, ht, hr_, g1, g2, g3, g4, g11, g13, hix, hcx, store_ptr, get_end_, get_old_, get_set_self_, get_set_ne_, len_set_, len_add_, bind_some_, map_some_, oneD_fold] | refine ifP_in (fun _ => ?_) (fun _ => ?_))
            refine ⟨i + 1, ⟨rfl, by omega, fun x hx => ?_⟩, by omega⟩
            rw [List.take_succ_eq_append_getElem hi] at hx
            rcases List.mem_append.1 hx with h | h
            · exact i2 x h
            · simp at h; subst h; exact hk3
        · have : i = plan.length := by omega
          subst this
          rw [List.take_length] at i2
          repeat' (first | simp (disch := first | omega | assumption | decide) only [go_sem, hm, hz, ht, hr_, g1, g2, g3, g4, g11, g13, str_LOG, store_ptr, get_end_, get_old_, get_set_self_, get_set_ne_, len_set_, len_add_, bind_some_, map_some_, oneD_fold] | refine ifP_in (fun _ => ?_) (fun _ => ?_))
          have hm0 : May (Jl.new0 room) 8 := ⟨Jl.new_ok hroom, by simp [Jl.new0], by simp [Jl.new0]⟩
          refine rF_use (jopen_w (s := Jl.new0 room) hd2 hm0 (by decide) (by rw [Jl.read_new]; simp)) ?_
          intro r H4 hop
          rw [Jl.open_new] at hop
          obtain ⟨jl, S4, hjl, rfl, hLA, hs4⟩ := hop.1 _ rfl
          repeat' (first | simp (disch := first | omega | assumption | decide) only [go_sem, hm, hz, ht, hr_, g1, g2, g3, g4, g11, g13, store_ptr, get_end_, get_old_, get_set_self_, get_set_ne_, len_set_, len_add_, bind_some_, map_some_, oneD_fold] | refine ifP_in (fun _ => ?_) (fun _ => ?_))
          refine rL_loop (σ := Nat × List Ev) (fun z e K => e 1 = .sl (l.map AV.bytes) ∧ e 2 = .sl (plan.map evA) ∧ e 3 = .i keep ∧ e 4 = .i torn ∧ e 11 = .ptr j 0 ∧ e 14 = .ptr jl 0 ∧ e 16 = .sl (z.2.map evA) ∧ e 17 = .i z.1 ∧ z.1 ≤ plan.length ∧ z.2.length ≤ z.1 ∧ (∀ x ∈ z.2, x.kind ≠ 3) ∧ H4.length ≤ K.length ∧ ∀ x, x < H4.length → K[x]? = H4[x]?) (fun z => plan.length - z.1) (0, []) ?_ ?_
          · refine ⟨?_, ?_, ?_, ?_, ?_, ?_, ?_, ?_, by simp, by simp, by simp, Nat.le_refl _, fun _ _ => rfl⟩
            all_goals first | (simp (disch := first | assumption | omega) only [go_sem, g1, g2, g3, g4, g11]; done) | (simp (disch := first | assumption | omega) only [go_sem, g1, g2, g3, g4, g11]; rfl)
          · clear g1 g2 g3 g4 g11 g13
            rintro ⟨i, q⟩ e K ⟨g1, g2, g3, g4, g11, g14, g16, g17, n1, n2, n3, n4, n5⟩
            simp only at g16 g17 n1 n2 n3
            by_cases hi : i < plan.length
            · have hix := ixg hi
              have hk3 := i2 _ (List.getElem_mem hi)
              generalize plan[i] = x at *
              have hcx : (evA x).cells = [AV.i x.at_, AV.i x.kind, AV.i x.keep, AV.i x.torn] := rfl
              have hKl : K.length < (K ++ [[AV.v (Value.int IntKind.i64 0), AV.v (Value.int IntKind.i64 0), AV.v (Value.int IntKind.i64 0), AV.v (Value.int IntKind.i64 0)]]).length := by simp
              have k1 : ((K ++ [[AV.v (Value.int IntKind.i64 0), AV.v (Value.int IntKind.i64 0), AV.v (Value.int IntKind.i64 0), AV.v (Value.int IntKind.i64 0)]]).set K.length [AV.i x.at_, AV.i x.kind, AV.i x.keep, AV.i x.torn])[K.length]? = some [AV.i x.at_, AV.i x.kind, AV.i x.keep, AV.i x.torn] := get_set hKl
              have k2 : ∀ y, y < K.length → ((K ++ [[AV.v (Value.int IntKind.i64 0), AV.v (Value.int IntKind.i64 0), AV.v (Value.int IntKind.i64 0), AV.v (Value.int IntKind.i64 0)]]).set K.length [AV.i x.at_, AV.i x.kind, AV.i x.keep, AV.i x.torn])[y]? = K[y]? := fun y hy => by rw [get_set_ne_ (by omega), get_old_ hy]
              have k3 : ((K ++ [[AV.v (Value.int IntKind.i64 0), AV.v (Value.int IntKind.i64 0), AV.v (Value.int IntKind.i64 0), AV.v (Value.int IntKind.i64 0)]]).set K.length [AV.i x.at_, AV.i x.kind, AV.i x.keep, AV.i x.torn]).length = K.length + 1 := by simp
              generalize hK' : (K ++ [[AV.v (Value.int IntKind.i64 0), AV.v (Value.int IntKind.i64 0), AV.v (Value.int IntKind.i64 0), AV.v (Value.int IntKind.i64 0)]]).set K.length [AV.i x.at_, AV.i x.kind, AV.i x.keep, AV.i x.torn] = K' at *
              have n5' : ∀ y, y < H4.length → K'[y]? = H4[y]? := fun y hy => by rw [k2 y (by omega)]; exact n5 y hy
              obtain ⟨Sd, hdk, hsub⟩ := hLA.disk
              have hdk' : DiskAt K' j Sd { Jl.new0 room with calls := 2 } := hdk.grew n5'
              by_cases hat : 0 < x.at_ ∧ x.at_ < 1000
              · repeat' (first | simp (disch := first | omega | assumption | decide) only [go_sem, hm, hz, ht, hr_, g1, g2, g3, g4, g11, g14, g16, g17, hix, hcx, hK', k1, store_ptr, get_end_, get_old_, get_set_self_, get_set_ne_, len_set_, len_add_, bind_some_, map_some_, oneD_fold] | refine ifP_in (fun _ => ?_) (fun _ => ?_))
                refine rF_use (calls_w hdk') ?_
                rintro _ H5 ⟨rfl, h⟩
                have h := h.symm
                subst h
                repeat' (first | simp (disch := first | omega | assumption | decide) only [go_sem, hm, hz, ht, hr_, g1, g2, g3, g4, g11, g14, g16, g17, hix, hcx, k1, store_ptr, get_end_, get_old_, get_set_self_, get_set_ne_, len_set_, len_add_, bind_some_, map_some_, oneD_fold] | refine ifP_in (fun _ => ?_) (fun _ => ?_))
                refine ⟨Or.inl (by decide +kernel), ?_⟩
                have hkl : K.length < K'.length := by omega
                have p1 : (K'.set K.length [AV.i (x.at_ + 2), AV.i x.kind, AV.i x.keep, AV.i x.torn])[K.length]? = some [AV.i (x.at_ + 2), AV.i x.kind, AV.i x.keep, AV.i x.torn] := get_set hkl
                have p2 : ∀ y, y < H4.length → (K'.set K.length [AV.i (x.at_ + 2), AV.i x.kind, AV.i x.keep, AV.i x.torn])[y]? = H4[y]? := fun y hy => by rw [get_set_ne_ (by omega)]; exact n5' y hy
                have p3 : (K'.set K.length [AV.i (x.at_ + 2), AV.i x.kind, AV.i x.keep, AV.i x.torn]).length = K.length + 1 := by simp; omega
                generalize hK2 : K'.set K.length [AV.i (x.at_ + 2), AV.i x.kind, AV.i x.keep, AV.i x.torn] = K2 at *
                have hck : cellsOK 4 (AV.agg [AV.i (x.at_ + 2), AV.i x.kind, AV.i x.keep, AV.i x.torn]) = true := rfl
                have hap : ∀ {el el' : TypeId} [SizeIs Try.prog el 4], appendD Try.prog (some (.slice el)) (some (.slice el')) (.sl (q.map evA)) (.sl [AV.agg [AV.i (x.at_ + 2), AV.i x.kind, AV.i x.keep, AV.i x.torn]]) = roomD 4 (sizeT Try.prog el) (bytesT Try.prog el) (zeroA Try.prog el) (q.length + 1) (.sl ((q ++ [(⟨x.at_ + 2, x.kind, x.keep, x.torn⟩ : Ev)]).map evA)) := fun {el el'} _ => append_ev (⟨x.at_ + 2, x.kind, x.keep, x.torn⟩ : Ev)
                repeat' (first | simp (disch := first | omega | assumption | decide) only [go_sem, hm, hz, ht, hr_, g1, g2, g3, g4, g11, g14, g16, g17, hK2, p1, hck, hap, store_ptr, get_end_, get_old_, get_set_self_, get_set_ne_, len_set_, len_add_, bind_some_, map_some_, oneD_fold] | refine ifP_in (fun _ => ?_) (fun _ => ?_))
                refine ⟨(i + 1, q ++ [⟨x.at_ + 2, x.kind, x.keep, x.torn⟩]), ⟨?_, ?_, ?_, ?_, ?_, ?_, ?_⟩, ?_⟩
                · rfl
                · rfl
                · simp only; omega
                · simp only [List.length_append, List.length_singleton]; omega
                · intro y hy
                  rcases List.mem_append.1 hy with h | h
                  · exact n3 y h
                  · simp at h; subst h; exact hk3
                · omega
                · exact p2
                · simp only; omega
              · have hat2 : ¬ 0 < x.at_ ∨ ¬ x.at_ < 1000 := by omega
                rcases hat2 with hat2 | hat2
                · repeat' (first | simp (disch := first | omega | assumption | decide) only [go_sem, hm, hz, ht, hr_, g1, g2, g3, g4, g11, g14, g16, g17, hix, hcx, hK', k1, store_ptr, get_end_, get_old_, get_set_self_, get_set_ne_, len_set_, len_add_, bind_some_, map_some_, oneD_fold] | refine ifP_in (fun _ => ?_) (fun _ => ?_))
                  all_goals first | (exfalso; omega) | exact ⟨(i + 1, q), ⟨rfl, rfl, by simp only; omega, by simp only; omega, n3, by omega, n5'⟩, by simp only; omega⟩
                · by_cases hat3 : 0 < x.at_
                  · repeat' (first | simp (disch := first | omega | assumption | decide) only [go_sem, hm, hz, ht, hr_, g1, g2, g3, g4, g11, g14, g16, g17, hix, hcx, hK', k1, store_ptr, get_end_, get_old_, get_set_self_, get_set_ne_, len_set_, len_add_, bind_some_, map_some_, oneD_fold] | refine ifP_in (fun _ => ?_) (fun _ => ?_))
                    all_goals first | (exfalso; omega) | exact ⟨(i + 1, q), ⟨rfl, rfl, by simp only; omega, by simp only; omega, n3, by omega, n5'⟩, by simp only; omega⟩
                  · repeat' (first | simp (disch := first | omega | assumption | decide) only [go_sem, hm, hz, ht, hr_, g1, g2, g3, g4, g11, g14, g16, g17, hix, hcx, hK', k1, store_ptr, get_end_, get_old_, get_set_self_, get_set_ne_, len_set_, len_add_, bind_some_, map_some_, oneD_fold] | refine ifP_in (fun _ => ?_) (fun _ => ?_))
                    all_goals first | (exfalso; omega) | exact ⟨(i + 1, q), ⟨rfl, rfl, by simp only; omega, by simp only; omega, n3, by omega, n5'⟩, by simp only; omega⟩
            · repeat' (first | simp (disch := first | omega | assumption | decide) only [go_sem, hm, hz, ht, hr_, g1, g2, g3, g4, g11, g14, g16, g17, store_ptr, get_end_, get_old_, get_set_self_, get_set_ne_, len_set_, len_add_, bind_some_, map_some_, oneD_fold] | refine ifP_in (fun _ => ?_) (fun _ => ?_))
              have hLK := hLA.grew n5 n4
              obtain ⟨pr, Sd, hL, hSS⟩ := hLK
              refine rF_use (plan_w hL.disk q (by omega) (x := .sl (q.map evA)) (.inr rfl)) ?_
              rintro _ K1 ⟨rfl, Sd1, hd1, hs1⟩
              obtain ⟨hL1, _⟩ := hL.step hd1 hs1
              have hst := Jl.start hroom l q n3
              repeat' (first | simp (disch := first | omega | assumption | decide) only [go_sem, hm, hz, ht, hr_, g1, g2, g3, g4, g11, g14, g16, g17, store_ptr, get_end_, get_old_, get_set_self_, get_set_ne_, len_set_, len_add_, bind_some_, map_some_, oneD_fold] | refine ifP_in (fun _ => ?_) (fun _ => ?_))
              refine rL_loop (σ := Nat × List Bs × Bs × Bool) (fun z e K => e 1 = .sl (l.map AV.bytes) ∧ e 3 = .i keep ∧ e 4 = .i torn ∧ e 11 = .ptr j 0 ∧ e 14 = .ptr jl 0 ∧ e 19 = .sl (z.2.1.map AV.bytes) ∧ e 20 = .sl (z.2.2.1.map byteA) ∧ e 21 = .b z.2.2.2 ∧ e 22 = .i z.1 ∧ z.1 ≤ l.length ∧ ∃ S lg s x, LogAt K jl j S Jl.LOG lg s ∧ Jl.Inv l z.1 z.2.1 z.2.2.1 z.2.2.2 lg s x ∧ s.calls ≤ 2 + 2 * z.1 ∧ s.plan = q) (fun z => l.length - z.1) (0, [], [], false) ?_ ?_
              · refine ⟨?_, ?_, ?_, ?_, ?_, ?_, ?_, ?_, ?_, by simp, _, _, _, _, ⟨pr, Sd1, hL1, rfl⟩, hst, by simp, rfl⟩
                all_goals first | (simp (disch := first | assumption | omega) only [go_sem, g1, g3, g4, g11, g14]; done) | (simp (disch := first | assumption | omega) only [go_sem, g1, g3, g4, g11, g14]; rfl)
              · clear g1 g2 g3 g4 g11 g14 g16 g17
                rintro ⟨i, ok, last, tried⟩ e K2 ⟨g1, g3, g4, g11, g14, g19, g20, g21, g22, m1, S, lg, s, x, hLA2, hI, hcs, hplq⟩
                simp only at g19 g20 g21 g22 m1 hI hcs
                have hft := frames_total l
                have hfle : (Jr.frames (l.take i)).length ≤ (Jr.frames l).length := by
                  rw [Jr.frames_split l i, List.length_append]; omega
                have hmay : May s 2 := ⟨hI.rest.ok, by omega, by rw [hplq]; omega⟩
                obtain ⟨Sd2, hdk2, _⟩ := hLA2.disk
                by_cases hi : i < l.length
                · have hix := ixg hi
                  repeat' (first | simp (disch := first | omega | assumption | decide) only [go_sem, hm, hz, ht, hr_, g1, g3, g4, g11, g14, g19, g20, g21, g22, store_ptr, get_end_, get_old_, get_set_self_, get_set_ne_, len_set_, len_add_, bind_some_, map_some_, oneD_fold] | refine ifP_in (fun _ => ?_) (fun _ => ?_))
                  refine rF_use (up_w hdk2) ?_
                  rintro _ K3 ⟨rfl, h⟩
                  have h := h.symm
                  subst h
                  cases hdown : s.down with
                  | false =>
                    repeat' (first | simp (disch := first | omega | assumption | decide) only [go_sem, hm, hz, ht, hr_, g1, g3, g4, g11, g14, g19, g20, g21, g22, hix, cells_by, store_ptr, get_end_, get_old_, get_set_self_, get_set_ne_, len_set_, len_add_, bind_some_, map_some_, oneD_fold] | refine ifP_in (fun _ => ?_) (fun _ => ?_))
                    have hsz := hs _ (List.getElem_mem hi)
                    have hsn := total_snoc l i hi
                    have htk := total_take l (i + 1)
                    have hr := hI.recs
                    refine rF_use (jappend_w hLA2 hmay (by decide) (by omega) l[i] (by omega)) ?_
                    rintro _ K4 ⟨rfl, S4, hLA4, hs4⟩
                    obtain ⟨x', hI'⟩ := hI.step hdown hi
                    obtain ⟨_, hc4, hp4, _⟩ := Jl.append_more hI.rest.ok Jl.LOG lg l[i]
                    generalize Jl.append s Jl.LOG lg l[i] = r at *
                    by_cases h0 : r.2.2 = 0
                    · rw [if_pos h0, decide_eq_false (by simpa using h0)] at hI'
                      have hon := hI.okn
                      have hckb : ∀ y : Bs, cellsOK 1 (AV.bytes y) = true := fun _ => rfl
                      have hapb : ∀ {el el' : TypeId} {y : Bs} [SizeIs Try.prog el 1], appendD Try.prog (some (.slice el)) (some (.slice el')) (.sl (ok.map AV.bytes)) (.sl [AV.bytes y]) = roomD 1 (sizeT Try.prog el) (bytesT Try.prog el) (zeroA Try.prog el) (ok.length + 1) (.sl ((ok ++ [y]).map AV.bytes)) := fun {el el' y} _ => append_one (f := AV.bytes) (y := y)
                      repeat' (first | simp (disch := first | omega | assumption | decide) only [go_sem, hm, hz, ht, hr_, g1, g3, g4, g11, g14, g19, g20, g21, g22, hix, cells_by, h0, hckb, hapb, store_ptr, get_end_, get_old_, get_set_self_, get_set_ne_, len_set_, len_add_, bind_some_, map_some_, oneD_fold] | refine ifP_in (fun _ => ?_) (fun _ => ?_))
                      exact ⟨(i + 1, ok ++ [l[i]], l[i], false), ⟨rfl, rfl, rfl, rfl, by simp only; omega, S4, r.2.1, r.1, x', hLA4, hI', by simp only; omega, hp4.trans hplq⟩, by simp only; omega⟩
                    · rw [if_neg h0, decide_eq_true h0] at hI'
                      repeat' (first | simp (disch := first | omega | assumption | decide) only [go_sem, hm, hz, ht, hr_, g1, g3, g4, g11, g14, g19, g20, g21, g22, hix, cells_by, h0, store_ptr, get_end_, get_old_, get_set_self_, get_set_ne_, len_set_, len_add_, bind_some_, map_some_, oneD_fold] | refine ifP_in (fun _ => ?_) (fun _ => ?_))
                      refine ⟨(i + 1, ok, l[i], true), ⟨rfl, rfl, ?_, rfl, by simp only; omega, S4, r.2.1, r.1, x', hLA4, hI', by simp only; omega, hp4.trans hplq⟩, by simp only; omega⟩
                      rw [decide_eq_true h0]
                  | true =>
                    repeat' (first | simp (disch := first | omega | assumption | decide) only [go_sem, hm, hz, ht, hr_, g1, g3, g4, g11, g14, g19, g20, g21, g22, hix, cells_by, store_ptr, get_end_, get_old_, get_set_self_, get_set_ne_, len_set_, len_add_, bind_some_, map_some_, oneD_fold] | refine ifP_in (fun _ => ?_) (fun _ => ?_))
                    refine rF_use (crash_w hdk2 hI.rest.ok (by omega) keep torn) ?_
                    rintro _ K5 ⟨rfl, S5, hd5, hs5⟩
                    repeat' (first | simp (disch := first | omega | assumption | decide) only [go_sem, hm, hz, ht, hr_, g11, store_ptr, get_end_, get_old_, get_set_self_, get_set_ne_, len_set_, len_add_, bind_some_, map_some_, oneD_fold] | refine ifP_in (fun _ => ?_) (fun _ => ?_))
                    refine rF_use (reboot_w hd5) ?_
                    rintro _ K6 ⟨rfl, S6, hd6, hs6⟩
                    repeat' (first | simp (disch := first | omega | assumption | decide) only [go_sem, hm, hz, ht, hr_, g11, store_ptr, get_end_, get_old_, get_set_self_, get_set_ne_, len_set_, len_add_, bind_some_, map_some_, oneD_fold] | refine ifP_in (fun _ => ?_) (fun _ => ?_))
                    refine rF_use (plan_w hd6 [] (by simp) (x := .sl []) (.inr rfl)) ?_
                    rintro _ K7 ⟨rfl, S7, hd7, hs7⟩
                    repeat' (first | simp (disch := first | omega | assumption | decide) only [go_sem, hm, hz, ht, hr_, g11, store_ptr, get_end_, get_old_, get_set_self_, get_set_ne_, len_set_, len_add_, bind_some_, map_some_, oneD_fold] | refine ifP_in (fun _ => ?_) (fun _ => ?_))
                    refine rF_use (resize_w hd7 1073741824) ?_
                    rintro _ K8 ⟨rfl, S8, hd8, hs8⟩
                    rw [if_pos (by omega)] at hd8
                    have hag : DiskAt K8 j S8 (Jl.again s keep torn) := hd8
                    obtain ⟨s1, s2, got, b1, b2, b3, b4, b5, b6, b7⟩ := hI.back (by omega) keep torn
                    have hm9 : May (Jl.again s keep torn) 17 := ⟨(Jl.again_calm hI.rest keep torn).ok, by rw [Jl.again_calls]; omega, by simp [Jl.again]⟩
                    have hm10 := hm9.open_ (by omega) Jl.LOG
                    rw [b1] at hm10
                    have hokn := hI.okn
                    repeat' (first | simp (disch := first | omega | assumption | decide) only [go_sem, hm, hz, ht, hr_, g11, str_LOG, store_ptr, get_end_, get_old_, get_set_self_, get_set_ne_, len_set_, len_add_, bind_some_, map_some_, oneD_fold] | refine ifP_in (fun _ => ?_) (fun _ => ?_))
                    refine rF_use (jopen_w hag (hm9.le (by omega)) (by decide) (by omega)) ?_
                    intro r9 K9 hop9
                    rw [b1] at hop9
                    obtain ⟨jb, Sb, hjb, rfl, hLb, hsb⟩ := hop9.1 _ rfl
                    repeat' (first | simp (disch := first | omega | assumption | decide) only [go_sem, hm, hz, ht, hr_, g11, str_LOG, store_ptr, get_end_, get_old_, get_set_self_, get_set_ne_, len_set_, len_add_, bind_some_, map_some_, oneD_fold] | refine ifP_in (fun _ => ?_) (fun _ => ?_))
                    refine rF_use (records_w hLb (by simp only; omega) (fun p hp => by have := b5 p hp; omega)) ?_
                    rintro ga Ka ⟨hga, hpa⟩
                    simp only at hga
                    have hLb' := hLb.grew (pre_grew hpa) (pre_len hpa)
                    obtain ⟨Sd3, hd3, _⟩ := hLb'.disk
                    repeat' (first | simp (disch := first | omega | assumption | decide) only [go_sem, hm, hz, ht, hr_, g11, str_LOG, store_ptr, get_end_, get_old_, get_set_self_, get_set_ne_, len_set_, len_add_, bind_some_, map_some_, oneD_fold] | refine ifP_in (fun _ => ?_) (fun _ => ?_))
                    refine rF_use (jopen_w hd3 (hm10.le (by omega)) (by decide) (Nat.lt_of_le_of_lt b7 (by decide))) ?_
                    intro rb Kb hopb
                    rw [b2] at hopb
                    obtain ⟨jc, Sc, hjc, rfl, hLc, hsc⟩ := hopb.1 _ rfl
                    repeat' (first | simp (disch := first | omega | assumption | decide) only [go_sem, hm, hz, ht, hr_, g11, str_LOG, store_ptr, get_end_, get_old_, get_set_self_, get_set_ne_, len_set_, len_add_, bind_some_, map_some_, oneD_fold] | refine ifP_in (fun _ => ?_) (fun _ => ?_))
                    refine rF_use (records_w hLc (by simp only; omega) (fun p hp => by have := b5 p hp; omega)) ?_
                    rintro gc Kc ⟨hgc, hpc⟩
                    simp only at hgc
                    repeat' (first | simp (disch := first | omega | assumption | decide) only [go_sem, hm, hz, ht, hr_, g11, hgc.plain, hga.plain, store_ptr, get_end_, get_old_, get_set_self_, get_set_ne_, len_set_, len_add_, bind_some_, map_some_, oneD_fold] | refine ifP_in (fun _ => ?_) (fun _ => ?_))
                    refine rF_use (rLists_w got got (by omega) rfl rfl) ?_
                    rintro _ Kd ⟨rfl, rfl⟩
                    repeat' (first | simp (disch := first | omega | assumption | decide) only [go_sem, hm, hz, ht, hr_, g11, hgc.plain, hga.plain, store_ptr, get_end_, get_old_, get_set_self_, get_set_ne_, len_set_, len_add_, bind_some_, map_some_, oneD_fold] | refine ifP_in (fun _ => ?_) (fun _ => ?_))
                    refine rF_use first23_w ?_
                    rintro _ Ke ⟨rfl, rfl⟩
                    repeat' (first | simp (disch := first | omega | assumption | decide) only [go_sem, hm, hz, ht, hr_, g19, g20, g21, hga.plain, store_ptr, get_end_, get_old_, get_set_self_, get_set_ne_, len_set_, len_add_, bind_some_, map_some_, oneD_fold] | refine ifP_in (fun _ => ?_) (fun _ => ?_))
                    refine rF_use (rLists_w got ok (by omega) rfl rfl) ?_
                    rintro _ Kf ⟨rfl, rfl⟩
                    by_cases hgk : got = ok
                    · repeat' (first | simp (disch := first | omega | assumption | decide) only [go_sem, hm, hz, ht, hr_, g19, g20, g21, hga.plain, hgk, store_ptr, get_end_, get_old_, get_set_self_, get_set_ne_, len_set_, len_add_, bind_some_, map_some_, oneD_fold] | refine ifP_in (fun _ => ?_) (fun _ => ?_))
                    · have htr : tried = true ∧ got = ok ++ [last] := by
                        rcases b3 with h | h
                        · exact absurd h hgk
                        · exact h
                      obtain ⟨rfl, hgl⟩ := htr
                      repeat' (first | simp (disch := first | omega | assumption | decide) only [go_sem, hm, hz, ht, hr_, g19, g20, g21, hga.plain, hgk, append_bytes, store_ptr, get_end_, get_old_, get_set_self_, get_set_ne_, len_set_, len_add_, bind_some_, map_some_, oneD_fold] | refine ifP_in (fun _ => ?_) (fun _ => ?_))
                      refine rF_use (rLists_w got (ok ++ [last]) (by omega) rfl rfl) ?_
                      rintro _ Kg ⟨rfl, rfl⟩
                      rw [decide_eq_true hgl]
                      repeat' (first | simp (disch := first | omega | assumption | decide) only [go_sem, hm, hz, ht, hr_, store_ptr, get_end_, get_old_, get_set_self_, get_set_ne_, len_set_, len_add_, bind_some_, map_some_, oneD_fold] | refine ifP_in (fun _ => ?_) (fun _ => ?_))
                · have : i = l.length := by omega
                  subst this
                  repeat' (first | simp (disch := first | omega | assumption | decide) only [go_sem, hm, hz, ht, hr_, g1, g3, g4, g11, g14, g19, g20, g21, g22, store_ptr, get_end_, get_old_, get_set_self_, get_set_ne_, len_set_, len_add_, bind_some_, map_some_, oneD_fold] | refine ifP_in (fun _ => ?_) (fun _ => ?_))
                  refine rF_use (crash_w hdk2 hI.rest.ok (by omega) keep torn) ?_
                  rintro _ K5 ⟨rfl, S5, hd5, hs5⟩
                  repeat' (first | simp (disch := first | omega | assumption | decide) only [go_sem, hm, hz, ht, hr_, g11, store_ptr, get_end_, get_old_, get_set_self_, get_set_ne_, len_set_, len_add_, bind_some_, map_some_, oneD_fold] | refine ifP_in (fun _ => ?_) (fun _ => ?_))
                  refine rF_use (reboot_w hd5) ?_
                  rintro _ K6 ⟨rfl, S6, hd6, hs6⟩
                  repeat' (first | simp (disch := first | omega | assumption | decide) only [go_sem, hm, hz, ht, hr_, g11, store_ptr, get_end_, get_old_, get_set_self_, get_set_ne_, len_set_, len_add_, bind_some_, map_some_, oneD_fold] | refine ifP_in (fun _ => ?_) (fun _ => ?_))
                  refine rF_use (plan_w hd6 [] (by simp) (x := .sl []) (.inr rfl)) ?_
                  rintro _ K7 ⟨rfl, S7, hd7, hs7⟩
                  repeat' (first | simp (disch := first | omega | assumption | decide) only [go_sem, hm, hz, ht, hr_, g11, store_ptr, get_end_, get_old_, get_set_self_, get_set_ne_, len_set_, len_add_, bind_some_, map_some_, oneD_fold] | refine ifP_in (fun _ => ?_) (fun _ => ?_))
                  refine rF_use (resize_w hd7 1073741824) ?_
                  rintro _ K8 ⟨rfl, S8, hd8, hs8⟩
                  rw [if_pos (by omega)] at hd8
                  have hag : DiskAt K8 j S8 (Jl.again s keep torn) := hd8
                  obtain ⟨s1, s2, got, b1, b2, b3, b4, b5, b6, b7⟩ := hI.back (by omega) keep torn
                  have hm9 : May (Jl.again s keep torn) 17 := ⟨(Jl.again_calm hI.rest keep torn).ok, by rw [Jl.again_calls]; omega, by simp [Jl.again]⟩
                  have hm10 := hm9.open_ (by omega) Jl.LOG
                  rw [b1] at hm10
                  have hokn := hI.okn
                  repeat' (first | simp (disch := first | omega | assumption | decide) only [go_sem, hm, hz, ht, hr_, g11, str_LOG, store_ptr, get_end_, get_old_, get_set_self_, get_set_ne_, len_set_, len_add_, bind_some_, map_some_, oneD_fold] | refine ifP_in (fun _ => ?_) (fun _ => ?_))
                  refine rF_use (jopen_w hag (hm9.le (by omega)) (by decide) (by omega)) ?_
                  intro r9 K9 hop9
                  rw [b1] at hop9
                  obtain ⟨jb, Sb, hjb, rfl, hLb, hsb⟩ := hop9.1 _ rfl
                  repeat' (first | simp (disch := first | omega | assumption | decide) only [go_sem, hm, hz, ht, hr_, g11, str_LOG, store_ptr, get_end_, get_old_, get_set_self_, get_set_ne_, len_set_, len_add_, bind_some_, map_some_, oneD_fold] | refine ifP_in (fun _ => ?_) (fun _ => ?_))
                  refine rF_use (records_w hLb (by simp only; omega) (fun p hp => by have := b5 p hp; omega)) ?_
                  rintro ga Ka ⟨hga, hpa⟩
                  simp only at hga
                  have hLb' := hLb.grew (pre_grew hpa) (pre_len hpa)
                  obtain ⟨Sd3, hd3, _⟩ := hLb'.disk
                  repeat' (first | simp (disch := first | omega | assumption | decide) only [go_sem, hm, hz, ht, hr_, g11, str_LOG, store_ptr, get_end_, get_old_, get_set_self_, get_set_ne_, len_set_, len_add_, bind_some_, map_some_, oneD_fold] | refine ifP_in (fun _ => ?_) (fun _ => ?_))
                  refine rF_use (jopen_w hd3 (hm10.le (by omega)) (by decide) (Nat.lt_of_le_of_lt b7 (by decide))) ?_
                  intro rb Kb hopb
                  rw [b2] at hopb
                  obtain ⟨jc, Sc, hjc, rfl, hLc, hsc⟩ := hopb.1 _ rfl
                  repeat' (first | simp (disch := first | omega | assumption | decide) only [go_sem, hm, hz, ht, hr_, g11, str_LOG, store_ptr, get_end_, get_old_, get_set_self_, get_set_ne_, len_set_, len_add_, bind_some_, map_some_, oneD_fold] | refine ifP_in (fun _ => ?_) (fun _ => ?_))
                  refine rF_use (records_w hLc (by simp only; omega) (fun p hp => by have := b5 p hp; omega)) ?_
                  rintro gc Kc ⟨hgc, hpc⟩
                  simp only at hgc
                  repeat' (first | simp (disch := first | omega | assumption | decide) only [go_sem, hm, hz, ht, hr_, g11, hgc.plain, hga.plain, store_ptr, get_end_, get_old_, get_set_self_, get_set_ne_, len_set_, len_add_, bind_some_, map_some_, oneD_fold] | refine ifP_in (fun _ => ?_) (fun _ => ?_))
                  refine rF_use (rLists_w got got (by omega) rfl rfl) ?_
                  rintro _ Kd ⟨rfl, rfl⟩
                  repeat' (first | simp (disch := first | omega | assumption | decide) only [go_sem, hm, hz, ht, hr_, g11, hgc.plain, hga.plain, store_ptr, get_end_, get_old_, get_set_self_, get_set_ne_, len_set_, len_add_, bind_some_, map_some_, oneD_fold] | refine ifP_in (fun _ => ?_) (fun _ => ?_))
                  refine rF_use first23_w ?_
                  rintro _ Ke ⟨rfl, rfl⟩
                  repeat' (first | simp (disch := first | omega | assumption | decide) only [go_sem, hm, hz, ht, hr_, g19, g20, g21, hga.plain, store_ptr, get_end_, get_old_, get_set_self_, get_set_ne_, len_set_, len_add_, bind_some_, map_some_, oneD_fold] | refine ifP_in (fun _ => ?_) (fun _ => ?_))
                  refine rF_use (rLists_w got ok (by omega) rfl rfl) ?_
                  rintro _ Kf ⟨rfl, rfl⟩
                  by_cases hgk : got = ok
                  · repeat' (first | simp (disch := first | omega | assumption | decide) only [go_sem, hm, hz, ht, hr_, g19, g20, g21, hga.plain, hgk, store_ptr, get_end_, get_old_, get_set_self_, get_set_ne_, len_set_, len_add_, bind_some_, map_some_, oneD_fold] | refine ifP_in (fun _ => ?_) (fun _ => ?_))
                  · have htr : tried = true ∧ got = ok ++ [last] := by
                      rcases b3 with h | h
                      · exact absurd h hgk
                      · exact h
                    obtain ⟨rfl, hgl⟩ := htr
                    repeat' (first | simp (disch := first | omega | assumption | decide) only [go_sem, hm, hz, ht, hr_, g19, g20, g21, hga.plain, hgk, append_bytes, store_ptr, get_end_, get_old_, get_set_self_, get_set_ne_, len_set_, len_add_, bind_some_, map_some_, oneD_fold] | refine ifP_in (fun _ => ?_) (fun _ => ?_))
                    refine rF_use (rLists_w got (ok ++ [last]) (by omega) rfl rfl) ?_
                    rintro _ Kg ⟨rfl, rfl⟩
                    rw [decide_eq_true hgl]
                    repeat' (first | simp (disch := first | omega | assumption | decide) only [go_sem, hm, hz, ht, hr_, store_ptr, get_end_, get_old_, get_set_self_, get_set_ne_, len_set_, len_add_, bind_some_, map_some_, oneD_fold] | refine ifP_in (fun _ => ?_) (fun _ => ?_))
    · have hor : t = false ∨ ¬ plan.length ≤ 40 := by
        cases t with
        | false => exact .inl rfl
        | true => exact .inr (fun h => hgo ⟨rfl, h⟩)
      by_cases ht0 : t = true
      · have hp41 : ¬ plan.length ≤ 40 := by
          rcases hor with h | h
          · rw [h] at ht0; cases ht0
          · exact h
        subst ht0
        repeat' (first | simp (disch := first | omega | assumption | decide) only [go_sem, hm, hz, ht, hr_, store_ptr, get_end_, get_old_, get_set_self_, get_set_ne_, len_set_, len_add_, bind_some_, map_some_, oneD_fold] | refine ifP_in (fun _ => ?_) (fun _ => ?_))
        refine rF_use first23_w ?_
        rintro _ H4 ⟨rfl, rfl⟩
        repeat' (first | simp (disch := first | omega | assumption | decide) only [go_sem, hm, hz, ht, hr_, store_ptr, get_end_, get_old_, get_set_self_, get_set_ne_, len_set_, len_add_, bind_some_, map_some_, oneD_fold] | refine ifP_in (fun _ => ?_) (fun _ => ?_))
      · have ht1 : t = false := by simpa using ht0
        subst ht1
        repeat' (first | simp (disch := first | omega | assumption | decide) only [go_sem, hm, hz, ht, hr_, store_ptr, get_end_, get_old_, get_set_self_, get_set_ne_, len_set_, len_add_, bind_some_, map_some_, oneD_fold] | refine ifP_in (fun _ => ?_) (fun _ => ?_))
        refine rF_use first23_w ?_
        rintro _ H4 ⟨rfl, rfl⟩
        repeat' (first | simp (disch := first | omega | assumption | decide) only [go_sem, hm, hz, ht, hr_, store_ptr, get_end_, get_old_, get_set_self_, get_set_ne_, len_set_, len_add_, bind_some_, map_some_, oneD_fold] | refine ifP_in (fun _ => ?_) (fun _ => ?_))
  · repeat' (first | simp (disch := first | omega | assumption | decide) only [go_sem, hm, hz, ht, hr_, store_ptr, get_end_, get_old_, get_set_self_, get_set_ne_, len_set_, len_add_, bind_some_, map_some_, oneD_fold] | refine ifP_in (fun _ => ?_) (fun _ => ?_))
    refine rF_use (new_bad room hroom) ?_
    rintro _ H2 ⟨rfl, h⟩
    repeat' (first | simp (disch := first | omega | assumption | decide) only [go_sem, hm, hz, ht, hr_, store_ptr, get_end_, get_old_, get_set_self_, get_set_ne_, len_set_, len_add_, bind_some_, map_some_, oneD_fold] | refine ifP_in (fun _ => ?_) (fun _ => ?_))
    refine rF_use first23_w ?_
    rintro _ H4 ⟨rfl, h⟩
    repeat' (first | simp (disch := first | omega | assumption | decide) only [go_sem, hm, hz, ht, hr_, store_ptr, get_end_, get_old_, get_set_self_, get_set_ne_, len_set_, len_add_, bind_some_, map_some_, oneD_fold] | refine ifP_in (fun _ => ?_) (fun _ => ?_))
theorem safe_all (room : Int) (l : List Bs) (plan : List Ev) (keep torn : Int) (_h0 : (Lit.int .i64 room).wf = true) (hl : l.length ≤ 140737488355328) (hs : ∀ p ∈ l, p.length ≤ 140737488355328) (hpl : plan.length ≤ 140737488355328) (_h3 : (Lit.int .i64 keep).wf = true) (_h4 : (Lit.int .i64 torn).wf = true) :
    WF Try.prog cfg 6 [.i room, .sl (l.map AV.bytes), .sl (plan.map evA), .i keep, .i torn] H (fun r H' => r = .b true) := safe_w room l plan keep torn hl hs hpl
end Jn
end Go.Proofs
