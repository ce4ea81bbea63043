/- The walk through the law: a renewal leaves one or the other. -/
import Derived.Test.YticlhjamafdmfaaDkL
import Derived.Test.YticlhjamafdmfaaJlRen
import Derived.Test.YticlhjamafdmfaaDkAllax0
import Derived.Test.YticlhjamafdmfaaLvAll11
import Derived.KernelRfl
set_option linter.unusedVariables false
set_option linter.unusedSimpArgs false
namespace Go.Proofs
open Go.Lv
namespace Jn
open Dk (Files Bs Ch Ev)
variable {H : Heap}
theorem total_mem (l : List Bs) (p : Bs) (hp : p ∈ l) : p.length ≤ total l := by
  induction l with
  | nil => simp at hp
  | cons q l ih =>
    have e : total (q :: l) = q.length + total l := by simp [total]
    rcases List.mem_cons.1 hp with rfl | hp
    · omega
    · have := ih hp
      omega
theorem new_eq : (⟨1073741824, [], [], [], [], 0, false⟩ : Dk.Disk) = Jl.new0 1073741824 := rfl
theorem renews_w (l m : List Bs) (plan : List Ev) (keep torn : Int) (hl : l.length ≤ 140737488355328) (hs : ∀ p ∈ l, p.length ≤ 140737488355328) (hml : m.length ≤ 140737488355328) (hms : ∀ p ∈ m, p.length ≤ 140737488355328) (hpl : plan.length ≤ 140737488355328) :
    WF Try.prog cfg 5 [.sl (l.map AV.bytes), .sl (m.map AV.bytes), .sl (plan.map evA), .i keep, .i torn] H (fun r H' => r = .b true) := by
  have hm : ∀ d, cfg.muF 5 d = (false) := fun _ => rfl
  have hz : ∀ d, cfg.fzF 5 d = (false) := fun _ => rfl
  have ht : ∀ d, cfg.tkF 5 d = (false) := fun _ => rfl
  have hr_ : ∀ g, cfg.raw g = (g == 58 || g == 69) := fun _ => rfl
  refine rF_fn rfl rfl Try.func5 rfl ?_
  repeat' (first | simp (disch := first | omega | assumption | decide) only [go_sem, hm, hz, ht, hr_, store_ptr, get_end_, get_old_, get_set_self_, get_set_ne_, len_set_, len_add_, bind_some_, map_some_, oneD_fold] | refine ifP_in (fun _ => ?_) (fun _ => ?_))
  refine rF_use first23_w ?_
  rintro _ H1 ⟨rfl, h⟩
  have h := h.symm
  subst h
  repeat' (first | simp (disch := first | omega | assumption | decide) only [go_sem, hm, hz, ht, hr_, store_ptr, get_end_, get_old_, get_set_self_, get_set_ne_, len_set_, len_add_, bind_some_, map_some_, oneD_fold] | refine ifP_in (fun _ => ?_) (fun _ => ?_))
  refine rF_use (new_w 1073741824 (by omega)) ?_
  rintro _ H2 ⟨rfl, ⟨S2, hd2, hn2⟩, hp2⟩
  obtain ⟨j, hj⟩ : ∃ j, j = H.length + 2 := ⟨_, rfl⟩
  rw [← hj] at hd2 ⊢
  repeat' (first | simp (disch := first | omega | assumption | decide) only [go_sem, hm, hz, ht, hr_, store_ptr, get_end_, get_old_, get_set_self_, get_set_ne_, len_set_, len_add_, bind_some_, map_some_, oneD_fold] | refine ifP_in (fun _ => ?_) (fun _ => ?_))
  refine rF_use (texts_w l hl hs) ?_
  rintro _ H3 ⟨t, rfl, h, htx⟩
  have h := h.symm
  subst h
  cases t with
  | false =>
    repeat' (first | simp (disch := first | omega | assumption | decide) only [go_sem, hm, hz, ht, hr_, store_ptr, get_end_, get_old_, get_set_self_, get_set_ne_, len_set_, len_add_, bind_some_, map_some_, oneD_fold] | refine ifP_in (fun _ => ?_) (fun _ => ?_))
    refine rF_use first23_w ?_
    rintro _ H4 ⟨rfl, rfl⟩
    repeat' (first | simp (disch := first | omega | assumption | decide) only [go_sem, hm, hz, ht, hr_, store_ptr, get_end_, get_old_, get_set_self_, get_set_ne_, len_set_, len_add_, bind_some_, map_some_, oneD_fold] | refine ifP_in (fun _ => ?_) (fun _ => ?_))
  | true =>
  obtain ⟨hl60, htot⟩ := htx rfl
  repeat' (first | simp (disch := first | omega | assumption | decide) only [go_sem, hm, hz, ht, hr_, store_ptr, get_end_, get_old_, get_set_self_, get_set_ne_, len_set_, len_add_, bind_some_, map_some_, oneD_fold] | refine ifP_in (fun _ => ?_) (fun _ => ?_))
  refine rF_use (texts_w m hml hms) ?_
  rintro _ H3 ⟨t, rfl, h, hty⟩
  have h := h.symm
  subst h
  cases t with
  | false =>
    repeat' (first | simp (disch := first | omega | assumption | decide) only [go_sem, hm, hz, ht, hr_, store_ptr, get_end_, get_old_, get_set_self_, get_set_ne_, len_set_, len_add_, bind_some_, map_some_, oneD_fold] | refine ifP_in (fun _ => ?_) (fun _ => ?_))
    refine rF_use first23_w ?_
    rintro _ H4 ⟨rfl, rfl⟩
    repeat' (first | simp (disch := first | omega | assumption | decide) only [go_sem, hm, hz, ht, hr_, store_ptr, get_end_, get_old_, get_set_self_, get_set_ne_, len_set_, len_add_, bind_some_, map_some_, oneD_fold] | refine ifP_in (fun _ => ?_) (fun _ => ?_))
  | true =>
  obtain ⟨hm60, hmot⟩ := hty rfl
  by_cases hp40 : plan.length ≤ 40
  rotate_left
  · repeat' (first | simp (disch := first | omega | assumption | decide) only [go_sem, hm, hz, ht, hr_, store_ptr, get_end_, get_old_, get_set_self_, get_set_ne_, len_set_, len_add_, bind_some_, map_some_, oneD_fold] | refine ifP_in (fun _ => ?_) (fun _ => ?_))
    refine rF_use first23_w ?_
    rintro _ H4 ⟨rfl, rfl⟩
    repeat' (first | simp (disch := first | omega | assumption | decide) only [go_sem, hm, hz, ht, hr_, store_ptr, get_end_, get_old_, get_set_self_, get_set_ne_, len_set_, len_add_, bind_some_, map_some_, oneD_fold] | refine ifP_in (fun _ => ?_) (fun _ => ?_))
  repeat' (first | simp (disch := first | omega | assumption | decide) only [go_sem, hm, hz, ht, hr_, str_LOG, store_ptr, get_end_, get_old_, get_set_self_, get_set_ne_, len_set_, len_add_, bind_some_, map_some_, oneD_fold] | refine ifP_in (fun _ => ?_) (fun _ => ?_))
  have hm0 : May (Jl.new0 1073741824) 8 := ⟨Jl.new_ok (by omega), by simp [Jl.new0], by simp [Jl.new0]⟩
  refine rF_use (jopen_w (s := Jl.new0 1073741824) hd2 hm0 (by decide) (by rw [Jl.read_new]; simp)) ?_
  intro r H4 hop
  rw [Jl.open_new] at hop
  obtain ⟨jl, S4, hjl, rfl, hLA, hs4⟩ := hop.1 _ rfl
  repeat' (first | simp (disch := first | omega | assumption | decide) only [go_sem, hm, hz, ht, hr_, store_ptr, get_end_, get_old_, get_set_self_, get_set_ne_, len_set_, len_add_, bind_some_, map_some_, oneD_fold] | refine ifP_in (fun _ => ?_) (fun _ => ?_))
  refine rL_loop (σ := Nat) (fun i e K => e 0 = .sl (l.map AV.bytes) ∧ e 1 = .sl (m.map AV.bytes) ∧ e 2 = .sl (plan.map evA) ∧ e 3 = .i keep ∧ e 4 = .i torn ∧ e 11 = .ptr j 0 ∧ e 13 = .ptr jl 0 ∧ e 15 = .i i ∧ i ≤ l.length ∧ (∀ p ∈ l.take i, p.length ≤ 60000) ∧ ∃ S lg s x, LogAt K jl j S Jl.LOG lg s ∧ Jl.Calm s x ∧ x.getD [] = Jr.frames (l.take i) ∧ lg.bad = false ∧ lg.recs.length ≤ i ∧ s.calls ≤ 2 + 2 * i) (fun i => l.length - i) 0 ?_ ?_
  · refine ⟨?_, ?_, ?_, ?_, ?_, ?_, ?_, ?_, by simp, by simp, _, _, _, _, hLA, Jl.start_calm rfl, by simp [Jr.frames], rfl, by simp, by simp⟩
    all_goals first | (simp (disch := first | assumption | omega) only [go_sem]; done) | (simp (disch := first | assumption | omega) only [go_sem]; rfl)
  · clear hLA hs4 hop hjl
    rintro i e K ⟨g0, g1, g2, g3, g4, g11, g13, g15, i1, i2, S, lg, s, x, hLA, hcm, hxf, hbad, hrl, hcs⟩
    have hft := frames_total l
    have hfle : (Jr.frames (l.take i)).length ≤ (Jr.frames l).length := by
      rw [Jr.frames_split l i, List.length_append]; omega
    have hc0 := hcm.ok.calls
    by_cases hi : i < l.length
    · have hix := ixg hi
      have hsz := hs _ (List.getElem_mem hi)
      have htm := total_mem l l[i] (List.getElem_mem hi)
      by_cases hbig : 60000 < l[i].length
      · repeat' (first | simp (disch := first | omega | assumption | decide) only [go_sem, hm, hz, ht, hr_, g0, g1, g2, g3, g4, g11, g13, g15, hix, cells_by, lenD_bytes, store_ptr, get_end_, get_old_, get_set_self_, get_set_ne_, len_set_, len_add_, bind_some_, map_some_, oneD_fold] | refine ifP_in (fun _ => ?_) (fun _ => ?_))
        refine rF_use first23_w ?_
        rintro _ H5 ⟨rfl, rfl⟩
        repeat' (first | simp (disch := first | omega | assumption | decide) only [go_sem, hm, hz, ht, hr_, store_ptr, get_end_, get_old_, get_set_self_, get_set_ne_, len_set_, len_add_, bind_some_, map_some_, oneD_fold] | refine ifP_in (fun _ => ?_) (fun _ => ?_))
      · repeat' (first | simp (disch := first | omega | assumption | decide) only [go_sem, hm, hz, ht, hr_, g0, g1, g2, g3, g4, g11, g13, g15, hix, cells_by, lenD_bytes, store_ptr, get_end_, get_old_, get_set_self_, get_set_ne_, len_set_, len_add_, bind_some_, map_some_, oneD_fold] | refine ifP_in (fun _ => ?_) (fun _ => ?_))
        refine rF_use (jappend_w hLA (⟨hcm.ok, by omega, by rw [hcm.plan]; simp⟩ : May s 2) (by decide) (by omega) l[i] (by omega)) ?_
        rintro _ K4 ⟨rfl, S4, hLA4, hs4⟩
        obtain ⟨a1, a2, a3⟩ := Jl.append_calm hcm lg hbad l[i] (by omega) (by rw [hxf]; omega)
        obtain ⟨_, hc4, _, hr4⟩ := Jl.append_more hcm.ok Jl.LOG lg l[i]
        generalize Jl.append s Jl.LOG lg l[i] = r at *
        repeat' (first | simp (disch := first | omega | assumption | decide) only [go_sem, hm, hz, ht, hr_, g0, g1, g2, g3, g4, g11, g13, g15, hix, cells_by, lenD_bytes, a1, store_ptr, get_end_, get_old_, get_set_self_, get_set_ne_, len_set_, len_add_, bind_some_, map_some_, oneD_fold] | refine ifP_in (fun _ => ?_) (fun _ => ?_))
        refine ⟨i + 1, ⟨rfl, by omega, ?_, S4, _, _, _, hLA4, a2, ?_, a3, by omega, by omega⟩, by omega⟩
        · intro p hp
          rw [List.take_succ_eq_append_getElem hi] at hp
          rcases List.mem_append.1 hp with h | h
          · exact i2 p h
          · simp at h; subst h; omega
        · simp only [Option.getD_some]
          rw [hxf, Jr.frames_snoc l i hi]
    · have : i = l.length := by omega
      subst this
      rw [List.take_length] at i2 hxf
      repeat' (first | simp (disch := first | omega | assumption | decide) only [go_sem, hm, hz, ht, hr_, g0, g1, g2, g3, g4, g11, g13, g15, store_ptr, get_end_, get_old_, get_set_self_, get_set_ne_, len_set_, len_add_, bind_some_, map_some_, oneD_fold] | refine ifP_in (fun _ => ?_) (fun _ => ?_))
      refine rL_loop (σ := Nat × List Ev) (fun z e' K' => e' 0 = .sl (l.map AV.bytes) ∧ e' 1 = .sl (m.map AV.bytes) ∧ e' 2 = .sl (plan.map evA) ∧ e' 3 = .i keep ∧ e' 4 = .i torn ∧ e' 11 = .ptr j 0 ∧ e' 13 = .ptr jl 0 ∧ e' 16 = .sl (z.2.map evA) ∧ e' 17 = .i z.1 ∧ z.1 ≤ plan.length ∧ z.2.length ≤ z.1 ∧ (∀ x ∈ z.2, x.kind ≠ 3) ∧ K.length ≤ K'.length ∧ ∀ x, x < K.length → K'[x]? = K[x]?) (fun z => plan.length - z.1) (0, []) ?_ ?_
      · refine ⟨?_, ?_, ?_, ?_, ?_, ?_, ?_, ?_, ?_, by simp, by simp, by simp, Nat.le_refl _, fun _ _ => rfl⟩
        all_goals first | (simp (disch := first | assumption | omega) only [go_sem, g0, g1, g2, g3, g4, g11, g13]; done) | (simp (disch := first | assumption | omega) only [go_sem, g0, g1, g2, g3, g4, g11, g13]; rfl)
      · clear g0 g1 g2 g3 g4 g11 g13 g15
        obtain ⟨H4, hH4⟩ : ∃ H4, H4 = K := ⟨_, rfl⟩
        rw [← hH4] at hLA ⊢
        clear hH4 K
        rintro ⟨i, q⟩ e K ⟨g0, g1, g2, g3, g4, g11, g13, g16, g17, n1, n2, n3, n4, n5⟩
        simp only at g16 g17 n1 n2 n3
        by_cases hi : i < plan.length
        · have hix := ixg hi
          generalize plan[i] = x at *
          have hcx : (evA x).cells = [AV.i x.at_, AV.i x.kind, AV.i x.keep, AV.i x.torn] := rfl
          have hKl : K.length < (K ++ [[AV.v (Value.int IntKind.i64 0), AV.v (Value.int IntKind.i64 0), AV.v (Value.int IntKind.i64 0), AV.v (Value.int IntKind.i64 0)]]).length := by simp
          have k1 : ((K ++ [[AV.v (Value.int IntKind.i64 0), AV.v (Value.int IntKind.i64 0), AV.v (Value.int IntKind.i64 0), AV.v (Value.int IntKind.i64 0)]]).set K.length [AV.i x.at_, AV.i x.kind, AV.i x.keep, AV.i x.torn])[K.length]? = some [AV.i x.at_, AV.i x.kind, AV.i x.keep, AV.i x.torn] := get_set hKl
          have k2 : ∀ y, y < K.length → ((K ++ [[AV.v (Value.int IntKind.i64 0), AV.v (Value.int IntKind.i64 0), AV.v (Value.int IntKind.i64 0), AV.v (Value.int IntKind.i64 0)]]).set K.length [AV.i x.at_, AV.i x.kind, AV.i x.keep, AV.i x.torn])[y]? = K[y]? := fun y hy => by rw [get_set_ne_ (by omega), get_old_ hy]
          have k3 : ((K ++ [[AV.v (Value.int IntKind.i64 0), AV.v (Value.int IntKind.i64 0), AV.v (Value.int IntKind.i64 0), AV.v (Value.int IntKind.i64 0)]]).set K.length [AV.i x.at_, AV.i x.kind, AV.i x.keep, AV.i x.torn]).length = K.length + 1 := by simp
          generalize hK' : (K ++ [[AV.v (Value.int IntKind.i64 0), AV.v (Value.int IntKind.i64 0), AV.v (Value.int IntKind.i64 0), AV.v (Value.int IntKind.i64 0)]]).set K.length [AV.i x.at_, AV.i x.kind, AV.i x.keep, AV.i x.torn] = K' at *
          have n5' : ∀ y, y < H4.length → K'[y]? = H4[y]? := fun y hy => by rw [k2 y (by omega)]; exact n5 y hy
          by_cases hk3 : x.kind = 3
          · repeat' (first | simp (disch := first | omega | assumption | decide) only [go_sem, hm, hz, ht, hr_, g0, g1, g2, g3, g4, g11, g13, g16, g17, hix, hcx, hK', k1, hk3, store_ptr, get_end_, get_old_, get_set_self_, get_set_ne_, len_set_, len_add_, bind_some_, map_some_, oneD_fold] | refine ifP_in (fun _ => ?_) (fun _ => ?_))
            refine rF_use first23_w ?_
            rintro _ H5 ⟨rfl, h⟩
            repeat' (first | simp (disch := first | omega | assumption | decide) only [go_sem, hm, hz, ht, hr_, store_ptr, get_end_, get_old_, get_set_self_, get_set_ne_, len_set_, len_add_, bind_some_, map_some_, oneD_fold] | refine ifP_in (fun _ => ?_) (fun _ => ?_))
          obtain ⟨Sd, hdk, hsub⟩ := hLA.disk
          have hdk' : DiskAt K' j Sd s := hdk.grew n5'
          by_cases hat : 0 < x.at_ ∧ x.at_ < 1000
          · repeat' (first | simp (disch := first | omega | assumption | decide) only [go_sem, hm, hz, ht, hr_, g0, g1, g2, g3, g4, g11, g13, g16, g17, hix, hcx, hK', k1, store_ptr, get_end_, get_old_, get_set_self_, get_set_ne_, len_set_, len_add_, bind_some_, map_some_, oneD_fold] | refine ifP_in (fun _ => ?_) (fun _ => ?_))
            refine rF_use (calls_w hdk') ?_
            rintro _ H5 ⟨rfl, h⟩
            have h := h.symm
            subst h
            repeat' (first | simp (disch := first | omega | assumption | decide) only [go_sem, hm, hz, ht, hr_, g0, g1, g2, g3, g4, g11, g13, g16, g17, hix, hcx, k1, store_ptr, get_end_, get_old_, get_set_self_, get_set_ne_, len_set_, len_add_, bind_some_, map_some_, oneD_fold] | refine ifP_in (fun _ => ?_) (fun _ => ?_))
            refine ⟨Or.inl (by decide +kernel), ?_⟩
            have hkl : K.length < K'.length := by omega
            have p1 : (K'.set K.length [AV.i (x.at_ + s.calls), AV.i x.kind, AV.i x.keep, AV.i x.torn])[K.length]? = some [AV.i (x.at_ + s.calls), AV.i x.kind, AV.i x.keep, AV.i x.torn] := get_set hkl
            have p2 : ∀ y, y < H4.length → (K'.set K.length [AV.i (x.at_ + s.calls), AV.i x.kind, AV.i x.keep, AV.i x.torn])[y]? = H4[y]? := fun y hy => by rw [get_set_ne_ (by omega)]; exact n5' y hy
            have p3 : (K'.set K.length [AV.i (x.at_ + s.calls), AV.i x.kind, AV.i x.keep, AV.i x.torn]).length = K.length + 1 := by simp; omega
            generalize hK2 : K'.set K.length [AV.i (x.at_ + s.calls), AV.i x.kind, AV.i x.keep, AV.i x.torn] = K2 at *
            have hck : cellsOK 4 (AV.agg [AV.i (x.at_ + s.calls), AV.i x.kind, AV.i x.keep, AV.i x.torn]) = true := rfl
            have hap : ∀ {el el' : TypeId} [SizeIs Try.prog el 4], appendD Try.prog (some (.slice el)) (some (.slice el')) (.sl (q.map evA)) (.sl [AV.agg [AV.i (x.at_ + s.calls), AV.i x.kind, AV.i x.keep, AV.i x.torn]]) = roomD 4 (sizeT Try.prog el) (bytesT Try.prog el) (zeroA Try.prog el) (q.length + 1) (.sl ((q ++ [(⟨x.at_ + s.calls, x.kind, x.keep, x.torn⟩ : Ev)]).map evA)) := fun {el el'} _ => append_ev (⟨x.at_ + s.calls, x.kind, x.keep, x.torn⟩ : Ev)
            repeat' (first | simp (disch := first | omega | assumption | decide) only [go_sem, hm, hz, ht, hr_, g0, g1, g2, g3, g4, g11, g13, g16, g17, hK2, p1, hck, hap, store_ptr, get_end_, get_old_, get_set_self_, get_set_ne_, len_set_, len_add_, bind_some_, map_some_, oneD_fold] | refine ifP_in (fun _ => ?_) (fun _ => ?_))
            refine ⟨(i + 1, q ++ [⟨x.at_ + s.calls, x.kind, x.keep, x.torn⟩]), ⟨?_, ?_, ?_, ?_, ?_, ?_, ?_⟩, ?_⟩
            · rfl
            · rfl
            · simp only; omega
            · simp only [List.length_append, List.length_singleton]; omega
            · intro y hy
              rcases List.mem_append.1 hy with h | h
              · exact n3 y h
              · simp at h; subst h; exact hk3
            · omega
            · exact p2
            · simp only; omega
          · have hat2 : ¬ 0 < x.at_ ∨ ¬ x.at_ < 1000 := by omega
            rcases hat2 with hat2 | hat2
            · repeat' (first | simp (disch := first | omega | assumption | decide) only [go_sem, hm, hz, ht, hr_, g0, g1, g2, g3, g4, g11, g13, g16, g17, hix, hcx, hK', k1, store_ptr, get_end_, get_old_, get_set_self_, get_set_ne_, len_set_, len_add_, bind_some_, map_some_, oneD_fold] | refine ifP_in (fun _ => ?_) (fun _ => ?_))
              all_goals first | (exfalso; omega) | exact ⟨(i + 1, q), ⟨rfl, rfl, by simp only; omega, by simp only; omega, n3, by omega, n5'⟩, by simp only; omega⟩
            · by_cases hat3 : 0 < x.at_
              · repeat' (first | simp (disch := first | omega | assumption | decide) only [go_sem, hm, hz, ht, hr_, g0, g1, g2, g3, g4, g11, g13, g16, g17, hix, hcx, hK', k1, store_ptr, get_end_, get_old_, get_set_self_, get_set_ne_, len_set_, len_add_, bind_some_, map_some_, oneD_fold] | refine ifP_in (fun _ => ?_) (fun _ => ?_))
                all_goals first | (exfalso; omega) | exact ⟨(i + 1, q), ⟨rfl, rfl, by simp only; omega, by simp only; omega, n3, by omega, n5'⟩, by simp only; omega⟩
              · repeat' (first | simp (disch := first | omega | assumption | decide) only [go_sem, hm, hz, ht, hr_, g0, g1, g2, g3, g4, g11, g13, g16, g17, hix, hcx, hK', k1, store_ptr, get_end_, get_old_, get_set_self_, get_set_ne_, len_set_, len_add_, bind_some_, map_some_, oneD_fold] | refine ifP_in (fun _ => ?_) (fun _ => ?_))
                all_goals first | (exfalso; omega) | exact ⟨(i + 1, q), ⟨rfl, rfl, by simp only; omega, by simp only; omega, n3, by omega, n5'⟩, by simp only; omega⟩
        · repeat' (first | simp (disch := first | omega | assumption | decide) only [go_sem, hm, hz, ht, hr_, g0, g1, g2, g3, g4, g11, g13, g16, g17, store_ptr, get_end_, get_old_, get_set_self_, get_set_ne_, len_set_, len_add_, bind_some_, map_some_, oneD_fold] | refine ifP_in (fun _ => ?_) (fun _ => ?_))
          have hLK := hLA.grew n5 n4
          obtain ⟨pr, Sd, hL, hSS⟩ := hLK
          refine rF_use (plan_w hL.disk q (by omega) (x := .sl (q.map evA)) (.inr rfl)) ?_
          rintro _ K1 ⟨rfl, Sd1, hd1, hs1⟩
          obtain ⟨hL1, _⟩ := hL.step hd1 hs1
          have hrest := hcm.rest q n3
          have hlaw := Jl.renew_law hrest lg hbad m
          have hmt := frames_total m
          have hm1 : May { s with plan := q } 40 := ⟨hrest.ok, by simp only; omega, by simp only; omega⟩
          have hm2 := May.renew hm1 (by omega) Jl.LOG lg m
          have hLA1 : LogAt K1 jl j (jl :: (tokP pr ++ Sd1)) Jl.LOG lg { s with plan := q } := ⟨pr, Sd1, hL1, rfl⟩
          generalize ({ s with plan := q } : Dk.Disk) = sq at *
          repeat' (first | simp (disch := first | omega | assumption | decide) only [go_sem, hm, hz, ht, hr_, g0, g1, g2, g3, g4, g11, g13, g16, g17, store_ptr, get_end_, get_old_, get_set_self_, get_set_ne_, len_set_, len_add_, bind_some_, map_some_, oneD_fold] | refine ifP_in (fun _ => ?_) (fun _ => ?_))
          refine rF_use (jrenew_w hLA1 (hm1.le (by omega)) (by decide) m (by omega) (by omega) (fun p hp => by have := total_mem m p hp; omega)) ?_
          rintro _ K2 ⟨rfl, S2', hLA2, hs2⟩
          generalize Jl.renew sq Jl.LOG lg m = rn at *
          obtain ⟨Sd2, hdk2, _⟩ := hLA2.disk
          repeat' (first | simp (disch := first | omega | assumption | decide) only [go_sem, hm, hz, ht, hr_, g0, g1, g2, g3, g4, g11, g13, g16, g17, store_ptr, get_end_, get_old_, get_set_self_, get_set_ne_, len_set_, len_add_, bind_some_, map_some_, oneD_fold] | refine ifP_in (fun _ => ?_) (fun _ => ?_))
          refine rF_use (crash_w hdk2 hlaw.ok (by have := hm2.calls; omega) keep torn) ?_
          rintro _ K5 ⟨rfl, S5, hd5, hs5⟩
          repeat' (first | simp (disch := first | omega | assumption | decide) only [go_sem, hm, hz, ht, hr_, g0, g1, g2, g3, g4, g11, g13, g16, g17, store_ptr, get_end_, get_old_, get_set_self_, get_set_ne_, len_set_, len_add_, bind_some_, map_some_, oneD_fold] | refine ifP_in (fun _ => ?_) (fun _ => ?_))
          refine rF_use (reboot_w hd5) ?_
          rintro _ K6 ⟨rfl, S6, hd6, hs6⟩
          repeat' (first | simp (disch := first | omega | assumption | decide) only [go_sem, hm, hz, ht, hr_, g0, g1, g2, g3, g4, g11, g13, g16, g17, store_ptr, get_end_, get_old_, get_set_self_, get_set_ne_, len_set_, len_add_, bind_some_, map_some_, oneD_fold] | refine ifP_in (fun _ => ?_) (fun _ => ?_))
          refine rF_use (plan_w hd6 [] (by simp) (x := .sl []) (.inr rfl)) ?_
          rintro _ K7 ⟨rfl, S7, hd7, hs7⟩
          have hag : DiskAt K7 j S7 (Jl.again0 rn.1 keep torn) := hd7
          obtain ⟨s1, got, b1, b2, b3, b4, b5⟩ := Jl.renew_back hlaw hxf i2 (by omega) (by omega) keep torn
          obtain ⟨F, _, hcal⟩ := Jl.again0_calm hlaw keep torn
          have hm9 : May (Jl.again0 rn.1 keep torn) 17 := ⟨hcal.ok, by rw [Jl.again0_calls]; have := hm2.calls; omega, by rw [hcal.plan]; simp⟩
          have hgl : got.length ≤ 60 ∧ total got ≤ 70000 := by
            rcases b4 with ⟨rfl, _⟩ | ⟨_, rfl⟩
            · exact ⟨hm60, hmot⟩
            · exact ⟨hl60, htot⟩
          have hno : Dk.has s1.now [108, 111, 103, 46, 110, 101, 119] = false := by
            rw [show ([108, 111, 103, 46, 110, 101, 119] : Bs) = Jl.FR from rfl]
            unfold Dk.has
            rw [b3]; rfl
          repeat' (first | simp (disch := first | omega | assumption | decide) only [go_sem, hm, hz, ht, hr_, g0, g1, g2, g3, g4, g11, g13, g16, g17, str_LOG, store_ptr, get_end_, get_old_, get_set_self_, get_set_ne_, len_set_, len_add_, bind_some_, map_some_, oneD_fold] | refine ifP_in (fun _ => ?_) (fun _ => ?_))
          refine rF_use (jopen_w hag (hm9.le (by omega)) (by decide) (by omega)) ?_
          intro r9 K9 hop9
          rw [b1] at hop9
          obtain ⟨jb, Sb, hjb, rfl, hLb, hsb⟩ := hop9.1 _ rfl
          obtain ⟨Sd3, hd3, _⟩ := hLb.disk
          repeat' (first | simp (disch := first | omega | assumption | decide) only [go_sem, hm, hz, ht, hr_, g0, g1, g2, g3, g4, g11, g13, g16, g17, store_ptr, get_end_, get_old_, get_set_self_, get_set_ne_, len_set_, len_add_, bind_some_, map_some_, oneD_fold] | refine ifP_in (fun _ => ?_) (fun _ => ?_))
          refine rF_use (peek_w hd3 b2.used _) ?_
          rintro _ Kp ⟨rfl, h⟩
          have h := h.symm
          subst h
          repeat' (first | simp (disch := first | omega | assumption | decide) only [go_sem, hm, hz, ht, hr_, g0, g1, g2, g3, g4, g11, g13, g16, g17, hno, store_ptr, get_end_, get_old_, get_set_self_, get_set_ne_, len_set_, len_add_, bind_some_, map_some_, oneD_fold] | refine ifP_in (fun _ => ?_) (fun _ => ?_))
          refine rF_use (records_w hLb (by simp only; omega) (fun p hp => by have := total_mem got p hp; omega)) ?_
          rintro ga Ka ⟨hga, hpa⟩
          simp only at hga
          repeat' (first | simp (disch := first | omega | assumption | decide) only [go_sem, hm, hz, ht, hr_, g0, g1, g2, g3, g4, g11, g13, g16, g17, hga.plain, store_ptr, get_end_, get_old_, get_set_self_, get_set_ne_, len_set_, len_add_, bind_some_, map_some_, oneD_fold] | refine ifP_in (fun _ => ?_) (fun _ => ?_))
          refine rF_use first23_w ?_
          rintro _ Ke ⟨rfl, rfl⟩
          repeat' (first | simp (disch := first | omega | assumption | decide) only [go_sem, hm, hz, ht, hr_, g0, g1, g2, g3, g4, g11, g13, g16, g17, hga.plain, store_ptr, get_end_, get_old_, get_set_self_, get_set_ne_, len_set_, len_add_, bind_some_, map_some_, oneD_fold] | refine ifP_in (fun _ => ?_) (fun _ => ?_))
          refine rF_use (rLists_w got m (by omega) rfl rfl) ?_
          rintro _ Kf ⟨rfl, rfl⟩
          by_cases hgm : got = m
          · repeat' (first | simp (disch := first | omega | assumption | decide) only [go_sem, hm, hz, ht, hr_, g0, g1, g2, g3, g4, g11, g13, g16, g17, hga.plain, hgm, store_ptr, get_end_, get_old_, get_set_self_, get_set_ne_, len_set_, len_add_, bind_some_, map_some_, oneD_fold] | refine ifP_in (fun _ => ?_) (fun _ => ?_))
          · obtain ⟨hc0, rfl⟩ : rn.2.2 ≠ 0 ∧ got = l := by
              rcases b4 with ⟨h, _⟩ | h
              · exact absurd h hgm
              · exact h
            repeat' (first | simp (disch := first | omega | assumption | decide) only [go_sem, hm, hz, ht, hr_, g0, g1, g2, g3, g4, g11, g13, g16, g17, hga.plain, hgm, hc0, store_ptr, get_end_, get_old_, get_set_self_, get_set_ne_, len_set_, len_add_, bind_some_, map_some_, oneD_fold] | refine ifP_in (fun _ => ?_) (fun _ => ?_))
            refine rF_use (rLists_w got got (by omega) rfl rfl) ?_
            rintro _ Kg ⟨rfl, rfl⟩
            rw [decide_eq_true (rfl : got = got)]
            repeat' (first | simp (disch := first | omega | assumption | decide) only [go_sem, hm, hz, ht, hr_, store_ptr, get_end_, get_old_, get_set_self_, get_set_ne_, len_set_, len_add_, bind_some_, map_some_, oneD_fold] | refine ifP_in (fun _ => ?_) (fun _ => ?_))
theorem renews_all (l m : List Bs) (plan : List Ev) (keep torn : Int) (hl : l.length ≤ 140737488355328) (hs : ∀ p ∈ l, p.length ≤ 140737488355328) (hml : m.length ≤ 140737488355328) (hms : ∀ p ∈ m, p.length ≤ 140737488355328) (hpl : plan.length ≤ 140737488355328) (_h3 : (Lit.int .i64 keep).wf = true) (_h4 : (Lit.int .i64 torn).wf = true) :
    WF Try.prog cfg 5 [.sl (l.map AV.bytes), .sl (m.map AV.bytes), .sl (plan.map evA), .i keep, .i torn] H (fun r H' => r = .b true) := renews_w l m plan keep torn hl hs hml hms hpl
end Jn
end Go.Proofs
/- Events among the arguments. -/
set_option linter.unusedVariables false
set_option linter.unusedSimpArgs false
namespace Go.Proofs
open Go.Lv
namespace Jn
open Dk (Ev)
variable {W : World} {H : Type} {enc : TypeId × Value → H}
def evC (e : Ev) : List AV := [.i e.at_, .i e.kind, .i e.keep, .i e.torn]
theorem opens_int : Opens Try.prog W enc 3 (fun n : Int => [AV.v (.int .i64 n)]) (fun n => (Lit.int .i64 n).wf = true) := Opens.int Try.underlying3 (by kernel_rfl)
theorem opens_ev : Opens Try.prog W enc 46 evC (fun _ => True) :=
  Opens.iso (fun p : Int × Int × Int × Int × Unit => (⟨p.1, p.2.1, p.2.2.1, p.2.2.2.1⟩ : Ev))
    (Opens.struct Try.underlying46 (tot := 4) (by kernel_rfl)
      (OpensF.cons (n0 := 1) opens_int rfl (by kernel_rfl) (OpensF.cons (n0 := 1) opens_int rfl (by kernel_rfl) (OpensF.cons (n0 := 1) opens_int rfl (by kernel_rfl) (OpensF.cons (n0 := 1) opens_int rfl (by kernel_rfl) OpensF.nil rfl) rfl) rfl) rfl))
    (fun _ => rfl) (fun _ _ => trivial)
end Jn
end Go.Proofs
