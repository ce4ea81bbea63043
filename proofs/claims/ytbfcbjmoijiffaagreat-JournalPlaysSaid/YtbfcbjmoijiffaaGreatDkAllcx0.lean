/- Walks: the log is renewed and opened. -/
import Derived.Test.YtbfcbjmoijiffaaGreatDkAllbx0
set_option linter.unusedVariables false
set_option linter.unusedSimpArgs false
namespace Go.Proofs
open Go.Lv
namespace Jn
open Dk (Files Bs Ch Ev)
variable {H : Heap}

theorem jrenew_w {jl j : Nat} {S : List Nat} {n : Bs} {l : Jl.Log} {s : Dk.Disk} (h : LogAt H jl j S n l s) (hmay : May s 5) (hn : n.length ≤ 100000) (ps : List Bs) (hpl : ps.length ≤ 2147483648) (hf : (Jr.frames ps).length ≤ 2147483648) (hps : ∀ p ∈ ps, p.length ≤ 2147483648) :
    WF Tryz.prog cfg 12 [.ptr jl 0, .sl (ps.map AV.bytes)] H (fun r H' => r = .i (Jl.renew s n l ps).2.2 ∧ ∃ S', LogAt H' jl j S' n (Jl.renew s n l ps).2.1 (Jl.renew s n l ps).1 ∧ Step H S H' S') := by
  obtain ⟨pr, Sd, hL, rfl⟩ := h
  have hl := hL.hl
  have hfl : (Jl.fresh n).length = n.length + 4 := by simp [Jl.fresh]
  have hfn : ∀ {P : Program} {xt : TypeId}, bin P .add xt (AV.str n) (AV.str [46, 110, 101, 119]) = some (AV.str (Jl.fresh n)) := by
    intro P xt
    have : (([46, 110, 101, 119] : List UInt8).length : Int) = 4 := rfl
    unfold Jl.fresh
    simp (disch := omega) only [go_sem]
  have hm : ∀ d, cfg.muF 12 d = (false) := fun _ => rfl
  have hz : ∀ d, cfg.fzF 12 d = (false) := fun _ => rfl
  have ht : ∀ d, cfg.tkF 12 d = (false) := fun _ => rfl
  have hr_ : ∀ g, cfg.raw g = (g == 68) := fun _ => rfl
  refine rF_fn rfl rfl Tryz.func12 rfl ?_
  unfold Jl.renew
  cases hbad : l.bad with
  | true =>
    rw [if_pos rfl]
    rw [hbad] at hl
    repeat' first | simp (disch := first | omega | assumption | decide) only [go_sem, hm, hz, ht, hr_, hl, wdl, bind_some_, map_some_, oneD_fold] | refine ifP_in (fun _ => ?_) fun _ => ?_
    exact ⟨_, ⟨pr, Sd, hL, rfl⟩, Step.refl _ _⟩
  | false =>
    rw [if_neg (by simp)]
    rw [hbad] at hl
    repeat' first | simp (disch := first | omega | assumption | decide) only [go_sem, hm, hz, ht, hr_, hl, wdl, bind_some_, map_some_, oneD_fold] | refine ifP_in (fun _ => ?_) fun _ => ?_
    refine rF_use (jall_w ps hpl hf hps) ?_
    rintro _ H1 ⟨rfl, hp1⟩
    have g1 : ∀ x, x < H.length → H1[x]? = H[x]? := fun x hx => by
      obtain ⟨G, rfl⟩ := hp1
      exact List.getElem?_append_left hx
    obtain ⟨hL1, hs1⟩ := hL.step (hL.disk.grew g1) (Step.grew (pre_len hp1) g1)
    have hl1 := hL1.hl
    rw [hbad] at hl1
    have hfit : ps.all (fun p => decide (p.length ≤ 60000)) = fits ps := rfl
    rw [hfit]
    by_cases hbig : fits ps = false
    · rw [if_pos hbig, if_pos hbig]
      repeat' first | simp (disch := first | omega | assumption | decide) only [go_sem, hm, hz, ht, hr_, hl1, wdl, bind_some_, map_some_, oneD_fold] | refine ifP_in (fun _ => ?_) fun _ => ?_
      exact ⟨_, ⟨pr, Sd, hL1, rfl⟩, hs1⟩
    · rw [if_neg hbig, if_neg hbig]
      repeat' first | simp (disch := first | omega | assumption | decide) only [go_sem, hm, hz, ht, hr_, hl1, hfn, wdl, bind_some_, map_some_, oneD_fold] | refine ifP_in (fun _ => ?_) fun _ => ?_
      refine rF_use (write_w hL1.disk (hmay.can (by omega)) (Jl.fresh n) (Jr.frames ps) (by omega) (by omega)) ?_
      rintro _ H2 ⟨rfl, S2, hd2, hs2⟩
      have hm2 := hmay.next (Dk.Keeps.write hmay.ok (Jl.fresh n) (Jr.frames ps))
      obtain ⟨hL2, hs2⟩ := hL1.step hd2 hs2
      have hl2 := hL2.hl
      rw [hbad] at hl2
      have hs12 := hs1.trans hs2
      generalize Dk.write s (Jl.fresh n) (Jr.frames ps) = w at *
      clear hs1 hs2 hL1 hl1
      by_cases h0 : w.2 = 0
      · have ht1 : Jl.then_ w Dk.sync = Dk.sync w.1 := by unfold Jl.then_; rw [if_pos h0]
        rw [ht1]
        repeat' first | simp (disch := first | omega | assumption | decide) only [go_sem, hm, hz, ht, hr_, hl2, h0, wdl, bind_some_, map_some_, oneD_fold] | refine ifP_in (fun _ => ?_) fun _ => ?_
        refine rF_use (sync_w hL2.disk (hm2.can (by omega))) ?_
        rintro _ H3 ⟨rfl, S3, hd3, hs3⟩
        have hm3 := hm2.next (Dk.Keeps.sync hm2.ok)
        obtain ⟨hL3, hs3⟩ := hL2.step hd3 hs3
        have hl3 := hL3.hl
        rw [hbad] at hl3
        have hs13 := hs12.trans hs3
        generalize Dk.sync w.1 = q at *
        by_cases h1 : q.2 = 0
        · rw [if_neg (show ¬ q.2 ≠ 0 from fun h => h h1)]
          repeat' first | simp (disch := first | omega | assumption | decide) only [go_sem, hm, hz, ht, hr_, hl3, h1, hfn, wdl, bind_some_, map_some_, oneD_fold] | refine ifP_in (fun _ => ?_) fun _ => ?_
          refine rF_use (rename_w hL3.disk (hm3.can (by omega)) (Jl.fresh n) n (by omega) (by omega)) ?_
          rintro _ H4 ⟨rfl, S4, hd4, hs4⟩
          have hm4 := hm3.next (Dk.Keeps.rename hm3.ok (Jl.fresh n) n)
          obtain ⟨hL4, hs4⟩ := hL3.step hd4 hs4
          have hl4 := hL4.hl
          rw [hbad] at hl4
          have hs14 := hs13.trans hs4
          generalize Dk.rename q.1 (Jl.fresh n) n = v at *
          by_cases h2 : v.2 = 0
          · have ht2 : Jl.then_ v Dk.sync = Dk.sync v.1 := by unfold Jl.then_; rw [if_pos h2]
            rw [ht2]
            repeat' first | simp (disch := first | omega | assumption | decide) only [go_sem, hm, hz, ht, hr_, hl4, h2, wdl, bind_some_, map_some_, oneD_fold] | refine ifP_in (fun _ => ?_) fun _ => ?_
            refine rF_use (sync_w hL4.disk (hm4.can (by omega))) ?_
            rintro _ H5 ⟨rfl, S5, hd5, hs5⟩
            obtain ⟨hL5, hs5⟩ := hL4.step hd5 hs5
            have hl5 := hL5.hl
            rw [hbad] at hl5
            have hs15 := hs14.trans hs5
            generalize Dk.sync v.1 = u at *
            by_cases h3 : u.2 = 0
            · rw [if_neg (show ¬ u.2 ≠ 0 from fun h => h h3)]
              repeat' first | simp (disch := first | omega | assumption | decide) only [go_sem, hm, hz, ht, hr_, hl5, h3, wdl, bind_some_, map_some_, oneD_fold] | refine ifP_in (fun _ => ?_) fun _ => ?_
              refine rF_use (jcopied_w ps (by omega) (fun p hp => by have := hps p hp; omega)) ?_
              rintro a' H6 ⟨hp6, hpre6⟩
              have g6 : ∀ x, x < H5.length → H6[x]? = H5[x]? := fun x hx => by
                obtain ⟨G, rfl⟩ := hpre6
                exact List.getElem?_append_left hx
              have hl6 : H6[jl]? = some [.ptr j 0, AV.str n, pr, .b false] := by rw [g6 jl (List.getElem?_eq_some_iff.1 hl5).1]; exact hl5
              have hst : ∀ o cs, storeC Tryz.prog 39 H6 jl o a' cs = storeS H6 jl o a' cs := fun o cs => storeC_one hp6.one.1 hp6.one.2
              repeat' first | simp (disch := first | omega | assumption | decide) only [go_sem, hm, hz, ht, hr_, hl6, hst, wdl, bind_some_, map_some_, oneD_fold] | refine ifP_in (fun _ => ?_) fun _ => ?_
              have hp60 : TokOf AV.bytes 1 0 H6 a' ps := by
                rcases hp6 with h | ⟨k, h1, h2⟩
                · exact .inl h
                · exact .inr ⟨k, Nat.zero_le _, h2⟩
              obtain ⟨hL7, hs7⟩ := hL5.recs_set (H' := H6) (pr' := a') (rs := ps) (pre_len hpre6) (fun x hx _ => g6 x hx) hp60 (by
                intro x hx
                rcases hp6 with ⟨rfl, _⟩ | ⟨k, h1, rfl, _⟩
                · simp [tokP_nil] at hx
                · simp only [tokP, List.mem_singleton] at hx; omega)
              rw [hbad] at hL7 hs7
              exact ⟨_, ⟨a', S5, hL7, rfl⟩, hs15.trans hs7⟩
            · rw [if_pos h3]
              repeat' first | simp (disch := first | omega | assumption | decide) only [go_sem, hm, hz, ht, hr_, hl5, h3, wdl, bind_some_, map_some_, oneD_fold] | refine ifP_in (fun _ => ?_) fun _ => ?_
              obtain ⟨hL6, hs6⟩ := hL5.put true
              exact ⟨_, ⟨pr, S5, hL6, rfl⟩, hs15.trans hs6⟩
          · have ht2 : Jl.then_ v Dk.sync = v := by unfold Jl.then_; rw [if_neg h2]
            rw [ht2, if_pos h2]
            repeat' first | simp (disch := first | omega | assumption | decide) only [go_sem, hm, hz, ht, hr_, hl4, h2, wdl, bind_some_, map_some_, oneD_fold] | refine ifP_in (fun _ => ?_) fun _ => ?_
            obtain ⟨hL6, hs6⟩ := hL4.put true
            exact ⟨_, ⟨pr, S4, hL6, rfl⟩, hs14.trans hs6⟩
        · rw [if_pos h1]
          repeat' first | simp (disch := first | omega | assumption | decide) only [go_sem, hm, hz, ht, hr_, hl3, h1, hfn, wdl, bind_some_, map_some_, oneD_fold] | refine ifP_in (fun _ => ?_) fun _ => ?_
          refine rF_use (delete_w hL3.disk (hm3.can (by omega)) (Jl.fresh n) (by omega)) ?_
          rintro _ Kd ⟨rfl, Sd', hdd, hsd⟩
          obtain ⟨hLd, hsd⟩ := hL3.step hdd hsd
          have hld := hLd.hl
          rw [hbad] at hld
          repeat' first | simp (disch := first | omega | assumption | decide) only [go_sem, hm, hz, ht, hr_, hld, h1, wdl, bind_some_, map_some_, oneD_fold] | refine ifP_in (fun _ => ?_) fun _ => ?_
          exact ⟨_, ⟨pr, Sd', hLd, rfl⟩, hs13.trans hsd⟩
      · have ht1 : Jl.then_ w Dk.sync = w := by unfold Jl.then_; rw [if_neg h0]
        rw [ht1, if_pos h0]
        repeat' first | simp (disch := first | omega | assumption | decide) only [go_sem, hm, hz, ht, hr_, hl2, h0, hfn, wdl, bind_some_, map_some_, oneD_fold] | refine ifP_in (fun _ => ?_) fun _ => ?_
        refine rF_use (delete_w hL2.disk (hm2.can (by omega)) (Jl.fresh n) (by omega)) ?_
        rintro _ Kd ⟨rfl, Sd', hdd, hsd⟩
        obtain ⟨hLd, hsd⟩ := hL2.step hdd hsd
        have hld := hLd.hl
        rw [hbad] at hld
        repeat' first | simp (disch := first | omega | assumption | decide) only [go_sem, hm, hz, ht, hr_, hld, h0, wdl, bind_some_, map_some_, oneD_fold] | refine ifP_in (fun _ => ?_) fun _ => ?_
        exact ⟨_, ⟨pr, Sd', hLd, rfl⟩, hs12.trans hsd⟩
end Jn
end Go.Proofs
/- Walks: a log is opened; its records. -/
set_option linter.unusedVariables false
set_option linter.unusedSimpArgs false
namespace Go.Proofs
open Go.Lv
namespace Jn
open Dk (Files Bs Ch Ev)
variable {H : Heap}

/-- What opening hands out. -/
def Opened (H H' : Heap) (j : Nat) (S : List Nat) (n : Bs) (o : Dk.Disk × Option Jl.Log × Int) (r : AV) : Prop :=
  (∀ l, o.2.1 = some l → ∃ jl S', H.length ≤ jl ∧ r = .tup [.ptr jl 0, .i o.2.2] ∧ LogAt H' jl j S' n l o.1 ∧ Step H S H' S') ∧
  (o.2.1 = none → ∃ S', r = .tup [.v (.pointer none), .i o.2.2] ∧ DiskAt H' j S' o.1 ∧ Step H S H' S')
theorem Opened.mk_none {H H' : Heap} {j : Nat} {S S' : List Nat} {n : Bs} {s : Dk.Disk} {e : Int} (h1 : DiskAt H' j S' s) (h2 : Step H S H' S') : Opened H H' j S n (s, none, e) (.tup [.v (.pointer none), .i e]) :=
  ⟨fun l h => by (simp only at h; cases h), fun _ => ⟨S', rfl, h1, h2⟩⟩
theorem LogAt.disk {jl j : Nat} {S : List Nat} {n : Bs} {l : Jl.Log} {s : Dk.Disk} (h : LogAt H jl j S n l s) : ∃ Sd, DiskAt H j Sd s ∧ ∀ x ∈ Sd, x ∈ S := by
  obtain ⟨pr, Sd, hL, rfl⟩ := h
  exact ⟨Sd, hL.disk, fun x hx => by simp [hx]⟩
theorem Step.sub {H H' : Heap} {S T T' : List Nat} (h : Step H S H' T) (hs : ∀ x ∈ T', x ∈ T) : Step H S H' T' := ⟨h.len, h.same, fun x hx => h.new x (hs x hx)⟩

theorem May.then_ {r : Dk.Disk × Int} {k : Int} (h : May r.1 k) (hk : 0 ≤ k) : May (Jl.then_ r Dk.sync).1 (k - 1) := by
  unfold Jl.then_
  split
  · exact h.next (Dk.Keeps.sync h.ok)
  · exact h.le (by omega)
theorem May.renew {s : Dk.Disk} {k : Int} (h : May s k) (hk : 6 ≤ k) (n : Bs) (l : Jl.Log) (ps : List Bs) : May (Jl.renew s n l ps).1 (k - 6) := by
  unfold Jl.renew
  split
  · exact h.le (by omega)
  · split
    · exact h.le (by omega)
    · have h1 := (h.next (Dk.Keeps.write h.ok (Jl.fresh n) (Jr.frames ps))).then_ (by omega)
      generalize Jl.then_ (Dk.write s (Jl.fresh n) (Jr.frames ps)) Dk.sync = q at *
      simp only
      split
      · exact (h1.next (Dk.Keeps.delete h1.ok _)).le (by omega)
      · have h2 := (h1.next (Dk.Keeps.rename h1.ok (Jl.fresh n) n)).then_ (by omega)
        generalize Jl.then_ (Dk.rename q.1 (Jl.fresh n) n) Dk.sync = v at *
        split
        · exact h2.le (by omega)
        · exact h2.le (by omega)
theorem May.open_ {s : Dk.Disk} {k : Int} (h : May s k) (hk : 8 ≤ k) (n : Bs) : May (Jl.open_ s n).1 (k - 8) := by
  unfold Jl.open_
  have h1 := h.next (Dk.Keeps.read h.ok n)
  generalize Dk.read s n = r at *
  simp only
  split
  · exact h1.le (by omega)
  · have hv : ∀ v : Dk.Disk × Jl.Log × Int, May v.1 (k - 7) → May (if v.2.2 ≠ 0 then (v.1, (none : Option Jl.Log), v.2.2) else if (Dk.delete v.1 (Jl.fresh n)).2 ≠ 0 ∧ (Dk.delete v.1 (Jl.fresh n)).2 ≠ 6 then ((Dk.delete v.1 (Jl.fresh n)).1, none, (Dk.delete v.1 (Jl.fresh n)).2) else ((Dk.delete v.1 (Jl.fresh n)).1, some v.2.1, 0)).1 (k - 8) := by
      intro v hv
      split
      · exact hv.le (by omega)
      · have h2 := hv.next (Dk.Keeps.delete hv.ok (Jl.fresh n))
        split
        · exact h2.le (by omega)
        · exact h2.le (by omega)
    refine hv _ ?_
    split
    · exact (May.renew h1 (by omega) _ _ _).le (by omega)
    · exact h1.le (by omega)
theorem jopen_w {j : Nat} {S : List Nat} {n : Bs} {s : Dk.Disk} (hd : DiskAt H j S s) (hmay : May s 8) (hn : n.length ≤ 100000) (hrd : (Dk.read s n).2.1.length ≤ 1073741824) :
    WF Tryz.prog cfg 8 [.ptr j 0, .str n] H (fun r H' => Opened H H' j S n (Jl.open_ s n) r) := by
  have hfl : (Jl.fresh n).length = n.length + 4 := by simp [Jl.fresh]
  have hfn : ∀ {P : Program} {xt : TypeId}, bin P .add xt (AV.str n) (AV.str [46, 110, 101, 119]) = some (AV.str (Jl.fresh n)) := by
    intro P xt
    have : (([46, 110, 101, 119] : List UInt8).length : Int) = 4 := rfl
    unfold Jl.fresh
    simp (disch := omega) only [go_sem]
  have hm : ∀ d, cfg.muF 8 d = (false) := fun _ => rfl
  have hz : ∀ d, cfg.fzF 8 d = (false) := fun _ => rfl
  have ht : ∀ d, cfg.tkF 8 d = (false) := fun _ => rfl
  have hr_ : ∀ g, cfg.raw g = (g == 68) := fun _ => rfl
  refine rF_fn rfl rfl Tryz.func8 rfl ?_
  repeat' first | simp (disch := first | omega | assumption | decide) only [go_sem, hm, hz, ht, hr_, wdl, bind_some_, map_some_, oneD_fold] | refine ifP_in (fun _ => ?_) fun _ => ?_
  refine rF_use (read_w hd (hmay.can (by omega)) n (by omega)) ?_
  rintro _ H1 ⟨rfl, S1, hd1, hs1⟩
  have hm1 := hmay.next (Dk.Keeps.read hmay.ok n)
  have e1 := @Jl.open_bad s n
  have e2 := @Jl.open_plain s n
  have e3 := @Jl.open_fail s n
  have e4 := @Jl.open_renew s n
  generalize Dk.read s n = r at *
  generalize Jl.open_ s n = o at *
  by_cases hbad : r.2.2 ≠ 0 ∧ r.2.2 ≠ 6
  · rw [e1 hbad]
    obtain ⟨q1, q2⟩ := hbad
    repeat' first | simp (disch := first | omega | assumption | decide) only [go_sem, hm, hz, ht, hr_, q1, q2, wdl, bind_some_, map_some_, oneD_fold] | refine ifP_in (fun _ => ?_) fun _ => ?_
    exact Opened.mk_none hd1 hs1
  · rcases (show r.2.2 = 0 ∨ r.2.2 = 6 by omega) with q1 | q1
    · repeat' first | simp (disch := first | omega | assumption | decide) only [go_sem, hm, hz, ht, hr_, q1, wdl, bind_some_, map_some_, oneD_fold] | refine ifP_in (fun _ => ?_) fun _ => ?_
      refine rF_use (Scan_w r.2.1 (by omega)) ?_
      rintro _ H2 ⟨a, rfl, ha, hp2⟩
      have g2 : ∀ x, x < H1.length → H2[x]? = H1[x]? := fun x hx => by
        obtain ⟨G, rfl⟩ := hp2
        exact List.getElem?_append_left hx
      have hl2 := pre_len hp2
      have hd2 := hd1.grew g2
      have hs2 := hs1.trans (Step.grew (S := S1) hl2 g2)
      obtain ⟨se1, se2, se3⟩ := Jr.scan_end r.2.1
      have hslen := Jr.scan_len r.2.1
      generalize Jr.scan r.2.1 = c at *
      have hfill : ∀ offs cells rest i, fillD offs cells ((i, a) :: rest) = partD1 offs cells i a rest := fun _ _ _ _ => fillD_part ha.one.1 ha.one.2
      have hod : ∀ (l : List AV) (x : List AV), oneD (a :: l) x = oneD l x := fun _ _ => oneD_cons ha.one.2
      have hbx : ([AV.ptr j 0, AV.str n, a, .b false] : List AV).all AV.one = true := by simp only [List.all_cons, ha.one.2, List.all_nil]; rfl
      have hL3 : LogR (H2 ++ [[.ptr j 0, AV.str n, a, .b false]]) H2.length j a S1 n ⟨c.1, false⟩ r.1 := by
        have g3 : ∀ x, x < H2.length → (H2 ++ [[.ptr j 0, AV.str n, a, .b false]])[x]? = H2[x]? := fun x hx => get_old_ hx
        have ha0 : TokOf AV.bytes 1 0 H2 a c.1 := by
          rcases ha with h | ⟨k, h1, h2⟩
          · exact .inl h
          · exact .inr ⟨k, Nat.zero_le _, h2⟩
        refine ⟨get_end_ _, tok_same ha0 fun x hx => g3 x (tok_lt ha0 x hx).1, hd2.grew g3, fun h => ?_, fun x hx hS => ?_⟩
        · have := hd2.lt _ h; omega
        · have h1 := hd1.lt _ hS
          rcases ha with ⟨rfl, _⟩ | ⟨k, k1, rfl, _⟩
          · simp [tokP_nil] at hx
          · simp only [tokP, List.mem_singleton] at hx; omega
      have hs3 : Step H S (H2 ++ [[.ptr j 0, AV.str n, a, .b false]]) (H2.length :: (tokP a ++ S1)) := by
        refine ⟨by have := hs2.len; simp; omega, fun i hi hS => ?_, fun x hx => ?_⟩
        · have := hs2.len
          rw [get_old_ (by omega)]; exact hs2.same i hi hS
        · have := hs2.len
          rcases List.mem_cons.1 hx with rfl | hx
          · exact .inr (by omega)
          · rcases List.mem_append.1 hx with hx | hx
            · right
              have := hs1.len
              rcases ha with ⟨rfl, _⟩ | ⟨k, k1, rfl, _⟩
              · simp [tokP_nil] at hx
              · simp only [tokP, List.mem_singleton] at hx; omega
            · exact hs2.new x hx
      have hl0 := hs2.len
      have hLA : LogAt (H2 ++ [[.ptr j 0, AV.str n, a, .b false]]) H2.length j (H2.length :: (tokP a ++ S1)) n ⟨c.1, false⟩ r.1 := ⟨a, S1, hL3, rfl⟩
      obtain ⟨jl, hjl⟩ : ∃ jl, jl = H2.length := ⟨_, rfl⟩
      rw [← hjl] at hLA hs3
      by_cases hend : c.2 < r.2.1.length
      · have e3 := e3 hbad hend
        have e4 := e4 hbad hend
        repeat' first | simp (disch := first | omega | assumption | decide) only [go_sem, hm, hz, ht, hr_, hfill, hod, hbx, wdl, bind_some_, map_some_, oneD_fold] | refine ifP_in (fun _ => ?_) fun _ => ?_
        rw [← hjl]
        generalize (H2 ++ [[.ptr j 0, AV.str n, a, .b false]]) = H3 at *
        generalize (jl :: (tokP a ++ S1)) = S3 at *
        rw [ha.plain]
        refine rF_use (jrenew_w hLA (hm1.le (by omega)) hn c.1 (by omega) (by omega) (fun p hp => by have := se3 p hp; omega)) ?_
        rintro _ H4 ⟨rfl, S4, hLA, hs4⟩
        have hs3 := hs3.trans hs4
        have hm5 := May.renew hm1 (by omega) n ⟨c.1, false⟩ c.1
        generalize Jl.renew r.1 n ⟨c.1, false⟩ c.1 = v at *
        by_cases hv : v.2.2 = 0
        · rw [e4 hv]
          unfold Jl.openTail
          repeat' first | simp (disch := first | omega | assumption | decide) only [go_sem, hm, hz, ht, hr_, hv, hfn, wdl, bind_some_, map_some_, oneD_fold] | refine ifP_in (fun _ => ?_) fun _ => ?_
          obtain ⟨pr, Sd, hLx, hSx⟩ := hLA
          have hsx := hs3
          rw [hSx] at hsx
          refine rF_use (delete_w hLx.disk (hm5.can (by omega)) (Jl.fresh n) (by omega)) ?_
          rintro _ K4 ⟨rfl, Sd', hdd, hsd⟩
          obtain ⟨hLd, hsd⟩ := hLx.step hdd hsd
          have hsall := hsx.trans hsd
          generalize Dk.delete v.1 (Jl.fresh n) = dl at *
          by_cases hb : dl.2 ≠ 0 ∧ dl.2 ≠ 6
          · rw [if_pos hb]
            obtain ⟨u1, u2⟩ := hb
            repeat' first | simp (disch := first | omega | assumption | decide) only [go_sem, hm, hz, ht, hr_, u1, u2, wdl, bind_some_, map_some_, oneD_fold] | refine ifP_in (fun _ => ?_) fun _ => ?_
            exact Opened.mk_none hLd.disk (hsall.sub (fun x hx => by simp [hx]))
          · rw [if_neg hb]
            rcases (show dl.2 = 0 ∨ dl.2 = 6 by omega) with u1 | u1
            · repeat' first | simp (disch := first | omega | assumption | decide) only [go_sem, hm, hz, ht, hr_, u1, wdl, bind_some_, map_some_, oneD_fold] | refine ifP_in (fun _ => ?_) fun _ => ?_
              exact ⟨fun l' h => by (injection h with h; subst h; exact ⟨jl, _, by omega, rfl, ⟨pr, Sd', hLd, rfl⟩, hsall⟩), fun h => by cases h⟩
            · have u2 : (6 : Int) ≠ 0 := by decide
              repeat' first | simp (disch := first | omega | assumption | decide) only [go_sem, hm, hz, ht, hr_, u1, wdl, bind_some_, map_some_, oneD_fold] | refine ifP_in (fun _ => ?_) fun _ => ?_
              exact ⟨fun l' h => by (injection h with h; subst h; exact ⟨jl, _, by omega, rfl, ⟨pr, Sd', hLd, rfl⟩, hsall⟩), fun h => by cases h⟩
        · rw [e3 hv]
          obtain ⟨Sd, hdv, hsub⟩ := hLA.disk
          repeat' first | simp (disch := first | omega | assumption | decide) only [go_sem, hm, hz, ht, hr_, hv, wdl, bind_some_, map_some_, oneD_fold] | refine ifP_in (fun _ => ?_) fun _ => ?_
          exact Opened.mk_none hdv (hs3.sub hsub)
      · rw [e2 hbad hend]
        unfold Jl.openTail
        repeat' first | simp (disch := first | omega | assumption | decide) only [go_sem, hm, hz, ht, hr_, hfill, hod, hbx, hfn, wdl, bind_some_, map_some_, oneD_fold] | refine ifP_in (fun _ => ?_) fun _ => ?_
        rw [← hjl]
        generalize (H2 ++ [[.ptr j 0, AV.str n, a, .b false]]) = H3 at *
        generalize (jl :: (tokP a ++ S1)) = S3 at *
        obtain ⟨pr, Sd, hLx, hSx⟩ := hLA
        have hsx := hs3
        rw [hSx] at hsx
        refine rF_use (delete_w hLx.disk (hm1.can (by omega)) (Jl.fresh n) (by omega)) ?_
        rintro _ K4 ⟨rfl, Sd', hdd, hsd⟩
        obtain ⟨hLd, hsd⟩ := hLx.step hdd hsd
        have hsall := hsx.trans hsd
        generalize Dk.delete r.1 (Jl.fresh n) = dl at *
        by_cases hb : dl.2 ≠ 0 ∧ dl.2 ≠ 6
        · rw [if_pos hb]
          obtain ⟨u1, u2⟩ := hb
          repeat' first | simp (disch := first | omega | assumption | decide) only [go_sem, hm, hz, ht, hr_, u1, u2, wdl, bind_some_, map_some_, oneD_fold] | refine ifP_in (fun _ => ?_) fun _ => ?_
          exact Opened.mk_none hLd.disk (hsall.sub (fun x hx => by simp [hx]))
        · rw [if_neg hb]
          rcases (show dl.2 = 0 ∨ dl.2 = 6 by omega) with u1 | u1
          · repeat' first | simp (disch := first | omega | assumption | decide) only [go_sem, hm, hz, ht, hr_, u1, wdl, bind_some_, map_some_, oneD_fold] | refine ifP_in (fun _ => ?_) fun _ => ?_
            exact ⟨fun l' h => by (injection h with h; subst h; exact ⟨jl, _, by omega, rfl, ⟨pr, Sd', hLd, rfl⟩, hsall⟩), fun h => by cases h⟩
          · have u2 : (6 : Int) ≠ 0 := by decide
            repeat' first | simp (disch := first | omega | assumption | decide) only [go_sem, hm, hz, ht, hr_, u1, wdl, bind_some_, map_some_, oneD_fold] | refine ifP_in (fun _ => ?_) fun _ => ?_
            exact ⟨fun l' h => by (injection h with h; subst h; exact ⟨jl, _, by omega, rfl, ⟨pr, Sd', hLd, rfl⟩, hsall⟩), fun h => by cases h⟩
    · have q2 : (6 : Int) ≠ 0 := by decide
      repeat' first | simp (disch := first | omega | assumption | decide) only [go_sem, hm, hz, ht, hr_, q1, wdl, bind_some_, map_some_, oneD_fold] | refine ifP_in (fun _ => ?_) fun _ => ?_
      refine rF_use (Scan_w r.2.1 (by omega)) ?_
      rintro _ H2 ⟨a, rfl, ha, hp2⟩
      have g2 : ∀ x, x < H1.length → H2[x]? = H1[x]? := fun x hx => by
        obtain ⟨G, rfl⟩ := hp2
        exact List.getElem?_append_left hx
      have hl2 := pre_len hp2
      have hd2 := hd1.grew g2
      have hs2 := hs1.trans (Step.grew (S := S1) hl2 g2)
      obtain ⟨se1, se2, se3⟩ := Jr.scan_end r.2.1
      have hslen := Jr.scan_len r.2.1
      generalize Jr.scan r.2.1 = c at *
      have hfill : ∀ offs cells rest i, fillD offs cells ((i, a) :: rest) = partD1 offs cells i a rest := fun _ _ _ _ => fillD_part ha.one.1 ha.one.2
      have hod : ∀ (l : List AV) (x : List AV), oneD (a :: l) x = oneD l x := fun _ _ => oneD_cons ha.one.2
      have hbx : ([AV.ptr j 0, AV.str n, a, .b false] : List AV).all AV.one = true := by simp only [List.all_cons, ha.one.2, List.all_nil]; rfl
      have hL3 : LogR (H2 ++ [[.ptr j 0, AV.str n, a, .b false]]) H2.length j a S1 n ⟨c.1, false⟩ r.1 := by
        have g3 : ∀ x, x < H2.length → (H2 ++ [[.ptr j 0, AV.str n, a, .b false]])[x]? = H2[x]? := fun x hx => get_old_ hx
        have ha0 : TokOf AV.bytes 1 0 H2 a c.1 := by
          rcases ha with h | ⟨k, h1, h2⟩
          · exact .inl h
          · exact .inr ⟨k, Nat.zero_le _, h2⟩
        refine ⟨get_end_ _, tok_same ha0 fun x hx => g3 x (tok_lt ha0 x hx).1, hd2.grew g3, fun h => ?_, fun x hx hS => ?_⟩
        · have := hd2.lt _ h; omega
        · have h1 := hd1.lt _ hS
          rcases ha with ⟨rfl, _⟩ | ⟨k, k1, rfl, _⟩
          · simp [tokP_nil] at hx
          · simp only [tokP, List.mem_singleton] at hx; omega
      have hs3 : Step H S (H2 ++ [[.ptr j 0, AV.str n, a, .b false]]) (H2.length :: (tokP a ++ S1)) := by
        refine ⟨by have := hs2.len; simp; omega, fun i hi hS => ?_, fun x hx => ?_⟩
        · have := hs2.len
          rw [get_old_ (by omega)]; exact hs2.same i hi hS
        · have := hs2.len
          rcases List.mem_cons.1 hx with rfl | hx
          · exact .inr (by omega)
          · rcases List.mem_append.1 hx with hx | hx
            · right
              have := hs1.len
              rcases ha with ⟨rfl, _⟩ | ⟨k, k1, rfl, _⟩
              · simp [tokP_nil] at hx
              · simp only [tokP, List.mem_singleton] at hx; omega
            · exact hs2.new x hx
      have hl0 := hs2.len
      have hLA : LogAt (H2 ++ [[.ptr j 0, AV.str n, a, .b false]]) H2.length j (H2.length :: (tokP a ++ S1)) n ⟨c.1, false⟩ r.1 := ⟨a, S1, hL3, rfl⟩
      obtain ⟨jl, hjl⟩ : ∃ jl, jl = H2.length := ⟨_, rfl⟩
      rw [← hjl] at hLA hs3
      by_cases hend : c.2 < r.2.1.length
      · have e3 := e3 hbad hend
        have e4 := e4 hbad hend
        repeat' first | simp (disch := first | omega | assumption | decide) only [go_sem, hm, hz, ht, hr_, hfill, hod, hbx, wdl, bind_some_, map_some_, oneD_fold] | refine ifP_in (fun _ => ?_) fun _ => ?_
        rw [← hjl]
        generalize (H2 ++ [[.ptr j 0, AV.str n, a, .b false]]) = H3 at *
        generalize (jl :: (tokP a ++ S1)) = S3 at *
        rw [ha.plain]
        refine rF_use (jrenew_w hLA (hm1.le (by omega)) hn c.1 (by omega) (by omega) (fun p hp => by have := se3 p hp; omega)) ?_
        rintro _ H4 ⟨rfl, S4, hLA, hs4⟩
        have hs3 := hs3.trans hs4
        have hm5 := May.renew hm1 (by omega) n ⟨c.1, false⟩ c.1
        generalize Jl.renew r.1 n ⟨c.1, false⟩ c.1 = v at *
        by_cases hv : v.2.2 = 0
        · rw [e4 hv]
          unfold Jl.openTail
          repeat' first | simp (disch := first | omega | assumption | decide) only [go_sem, hm, hz, ht, hr_, hv, hfn, wdl, bind_some_, map_some_, oneD_fold] | refine ifP_in (fun _ => ?_) fun _ => ?_
          obtain ⟨pr, Sd, hLx, hSx⟩ := hLA
          have hsx := hs3
          rw [hSx] at hsx
          refine rF_use (delete_w hLx.disk (hm5.can (by omega)) (Jl.fresh n) (by omega)) ?_
          rintro _ K4 ⟨rfl, Sd', hdd, hsd⟩
          obtain ⟨hLd, hsd⟩ := hLx.step hdd hsd
          have hsall := hsx.trans hsd
          generalize Dk.delete v.1 (Jl.fresh n) = dl at *
          by_cases hb : dl.2 ≠ 0 ∧ dl.2 ≠ 6
          · rw [if_pos hb]
            obtain ⟨u1, u2⟩ := hb
            repeat' first | simp (disch := first | omega | assumption | decide) only [go_sem, hm, hz, ht, hr_, u1, u2, wdl, bind_some_, map_some_, oneD_fold] | refine ifP_in (fun _ => ?_) fun _ => ?_
            exact Opened.mk_none hLd.disk (hsall.sub (fun x hx => by simp [hx]))
          · rw [if_neg hb]
            rcases (show dl.2 = 0 ∨ dl.2 = 6 by omega) with u1 | u1
            · repeat' first | simp (disch := first | omega | assumption | decide) only [go_sem, hm, hz, ht, hr_, u1, wdl, bind_some_, map_some_, oneD_fold] | refine ifP_in (fun _ => ?_) fun _ => ?_
              exact ⟨fun l' h => by (injection h with h; subst h; exact ⟨jl, _, by omega, rfl, ⟨pr, Sd', hLd, rfl⟩, hsall⟩), fun h => by cases h⟩
            · have u2 : (6 : Int) ≠ 0 := by decide
              repeat' first | simp (disch := first | omega | assumption | decide) only [go_sem, hm, hz, ht, hr_, u1, wdl, bind_some_, map_some_, oneD_fold] | refine ifP_in (fun _ => ?_) fun _ => ?_
              exact ⟨fun l' h => by (injection h with h; subst h; exact ⟨jl, _, by omega, rfl, ⟨pr, Sd', hLd, rfl⟩, hsall⟩), fun h => by cases h⟩
        · rw [e3 hv]
          obtain ⟨Sd, hdv, hsub⟩ := hLA.disk
          repeat' first | simp (disch := first | omega | assumption | decide) only [go_sem, hm, hz, ht, hr_, hv, wdl, bind_some_, map_some_, oneD_fold] | refine ifP_in (fun _ => ?_) fun _ => ?_
          exact Opened.mk_none hdv (hs3.sub hsub)
      · rw [e2 hbad hend]
        unfold Jl.openTail
        repeat' first | simp (disch := first | omega | assumption | decide) only [go_sem, hm, hz, ht, hr_, hfill, hod, hbx, hfn, wdl, bind_some_, map_some_, oneD_fold] | refine ifP_in (fun _ => ?_) fun _ => ?_
        rw [← hjl]
        generalize (H2 ++ [[.ptr j 0, AV.str n, a, .b false]]) = H3 at *
        generalize (jl :: (tokP a ++ S1)) = S3 at *
        obtain ⟨pr, Sd, hLx, hSx⟩ := hLA
        have hsx := hs3
        rw [hSx] at hsx
        refine rF_use (delete_w hLx.disk (hm1.can (by omega)) (Jl.fresh n) (by omega)) ?_
        rintro _ K4 ⟨rfl, Sd', hdd, hsd⟩
        obtain ⟨hLd, hsd⟩ := hLx.step hdd hsd
        have hsall := hsx.trans hsd
        generalize Dk.delete r.1 (Jl.fresh n) = dl at *
        by_cases hb : dl.2 ≠ 0 ∧ dl.2 ≠ 6
        · rw [if_pos hb]
          obtain ⟨u1, u2⟩ := hb
          repeat' first | simp (disch := first | omega | assumption | decide) only [go_sem, hm, hz, ht, hr_, u1, u2, wdl, bind_some_, map_some_, oneD_fold] | refine ifP_in (fun _ => ?_) fun _ => ?_
          exact Opened.mk_none hLd.disk (hsall.sub (fun x hx => by simp [hx]))
        · rw [if_neg hb]
          rcases (show dl.2 = 0 ∨ dl.2 = 6 by omega) with u1 | u1
          · repeat' first | simp (disch := first | omega | assumption | decide) only [go_sem, hm, hz, ht, hr_, u1, wdl, bind_some_, map_some_, oneD_fold] | refine ifP_in (fun _ => ?_) fun _ => ?_
            exact ⟨fun l' h => by (injection h with h; subst h; exact ⟨jl, _, by omega, rfl, ⟨pr, Sd', hLd, rfl⟩, hsall⟩), fun h => by cases h⟩
          · have u2 : (6 : Int) ≠ 0 := by decide
            repeat' first | simp (disch := first | omega | assumption | decide) only [go_sem, hm, hz, ht, hr_, u1, wdl, bind_some_, map_some_, oneD_fold] | refine ifP_in (fun _ => ?_) fun _ => ?_
            exact ⟨fun l' h => by (injection h with h; subst h; exact ⟨jl, _, by omega, rfl, ⟨pr, Sd', hLd, rfl⟩, hsall⟩), fun h => by cases h⟩
end Jn
end Go.Proofs
