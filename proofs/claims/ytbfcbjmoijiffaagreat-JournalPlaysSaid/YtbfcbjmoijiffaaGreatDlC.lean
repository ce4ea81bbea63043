/- Walks: a disk played, held against another one. -/
import Derived.Test.YtbfcbjmoijiffaaGreatDlAllax0
set_option linter.unusedVariables false
set_option linter.unusedSimpArgs false
namespace Go.Proofs
open Go.Lv
namespace Jn
open Dk (Files Bs Ch Ev)
open Dl (DOp Small Kept doesD doesR)
variable {H : Heap}

def newD (room : Int) : Dk.Disk := ⟨room, [], [], [], [], 0, false⟩
theorem plain_opV (o : DOp) : plainA (opV o) = opV o := rfl
/-- What a disk that was played is. -/
structure PlayedAt (H : Heap) (room : Int) (l : List DOp) (j : Nat) : Prop where
  okr : 0 ≤ room ∧ room ≤ 1073741824
  len : l.length ≤ 100
  small : ∀ o ∈ l, Small o
  out : ∃ k S T, Pair H j k S T (l.foldl doesD (newD room)) (l.foldl doesR (newD room))
theorem same_w {j k : Nat} {S T : List Nat} {n : Int} {s r : Dk.Disk} (hp : Pair H j k S T s r) (hk : Kept n s r) (hn : n ≤ 1000) : WF Tryz.prog cfg 15 [.ptr j 0, .ptr k 0] H (fun v H' => v = .b true ∧ H' = H) := by
  obtain ⟨l1, l2, u1, u2⟩ := Kept.nowLen hk hn
  have hnow := hk.live.two.nowR
  have hcalls := hk.live.two.calls
  have hused := hnow.used
  have hpend := hk.live.two.pend
  have hdown := hk.live.two.down
  have hnm := dnames_eq hnow
  have hdl : (dnames s.now).length = s.now.length := by unfold dnames; rw [List.length_mergeSort, List.length_map]
  have hm : ∀ d, cfg.muF 15 d = (false) := fun _ => rfl
  have hz : ∀ d, cfg.fzF 15 d = (false) := fun _ => rfl
  have ht : ∀ d, cfg.tkF 15 d = (false) := fun _ => rfl
  have hr_ : ∀ g, cfg.raw g = (g == 68) := fun _ => rfl
  refine rF_fn rfl rfl Tryz.func15 rfl ?_
  repeat' first | simp (disch := first | omega | assumption | decide) only [go_sem, hm, hz, ht, hr_, wdl, bind_some_, map_some_, oneD_fold] | refine ifP_in (fun _ => ?_) fun _ => ?_
  refine rF_use (calls_w hp.hd) ?_
  rintro _ H1 ⟨rfl, rfl⟩
  repeat' first | simp (disch := first | omega | assumption | decide) only [go_sem, hm, hz, ht, hr_, wdl, bind_some_, map_some_, oneD_fold] | refine ifP_in (fun _ => ?_) fun _ => ?_
  refine rF_use (rcalls_w hp.hr) ?_
  rintro _ H2 ⟨rfl, rfl⟩
  have e1 : ¬ (s.calls ≠ r.calls) := by rw [hcalls]; simp
  repeat' first | simp (disch := first | omega | assumption | decide) only [go_sem, hm, hz, ht, hr_, wdl, bind_some_, map_some_, oneD_fold] | refine ifP_in (fun _ => ?_) fun _ => ?_
  refine rF_use (used_w hp.hd u1) ?_
  rintro _ H3 ⟨rfl, rfl⟩
  repeat' first | simp (disch := first | omega | assumption | decide) only [go_sem, hm, hz, ht, hr_, wdl, bind_some_, map_some_, oneD_fold] | refine ifP_in (fun _ => ?_) fun _ => ?_
  refine rF_use (rusedD_w hp.hr l2 u2) ?_
  rintro _ H4 ⟨rfl, rfl⟩
  have e2 : ¬ ((Dk.used s.now : Int) ≠ Dk.used r.now) := by rw [hused]; simp
  repeat' first | simp (disch := first | omega | assumption | decide) only [go_sem, hm, hz, ht, hr_, wdl, bind_some_, map_some_, oneD_fold] | refine ifP_in (fun _ => ?_) fun _ => ?_
  refine rF_use (pending_w hp.hd) ?_
  rintro _ H5 ⟨rfl, rfl⟩
  repeat' first | simp (disch := first | omega | assumption | decide) only [go_sem, hm, hz, ht, hr_, wdl, bind_some_, map_some_, oneD_fold] | refine ifP_in (fun _ => ?_) fun _ => ?_
  refine rF_use (rpending_w hp.hr) ?_
  rintro _ H6 ⟨rfl, rfl⟩
  have e3 : ¬ ((s.pend.length : Int) ≠ r.pend.length) := by rw [hpend]; simp
  repeat' first | simp (disch := first | omega | assumption | decide) only [go_sem, hm, hz, ht, hr_, wdl, bind_some_, map_some_, oneD_fold] | refine ifP_in (fun _ => ?_) fun _ => ?_
  refine rF_use (up_w hp.hd) ?_
  rintro _ H7 ⟨rfl, rfl⟩
  repeat' first | simp (disch := first | omega | assumption | decide) only [go_sem, hm, hz, ht, hr_, wdl, bind_some_, map_some_, oneD_fold] | refine ifP_in (fun _ => ?_) fun _ => ?_
  refine rF_use (rup_w hp.hr) ?_
  rintro _ H8 ⟨rfl, rfl⟩
  rw [hdown]
  generalize (!r.down) = q
  cases q
  all_goals
    repeat' first | simp (disch := first | omega | assumption | decide) only [go_sem, hm, hz, ht, hr_, wdl, bind_some_, map_some_, oneD_fold] | refine ifP_in (fun _ => ?_) fun _ => ?_
    · rename_i hx
      exact absurd hx (by simp)
    refine rF_use (names_w hp.hd l1) ?_
    rintro _ H9 ⟨rfl, rfl⟩
    repeat' first | simp (disch := first | omega | assumption | decide) only [go_sem, hm, hz, ht, hr_, wdl, bind_some_, map_some_, oneD_fold] | refine ifP_in (fun _ => ?_) fun _ => ?_
    refine rF_use (rnames_w hp.hr l2) ?_
    rintro _ H10 ⟨rfl, rfl⟩
    repeat' first | simp (disch := first | omega | assumption | decide) only [go_sem, hm, hz, ht, hr_, wdl, bind_some_, map_some_, oneD_fold] | refine ifP_in (fun _ => ?_) fun _ => ?_
    refine rF_use (texts_w _ _ (by omega) (by rw [List.length_map]; omega)) ?_
    rintro _ H11 ⟨rfl, rfl⟩
    rw [decide_eq_true hnm]
    repeat' first | simp (disch := first | omega | assumption | decide) only [go_sem, hm, hz, ht, hr_, wdl, bind_some_, map_some_, oneD_fold] | refine ifP_in (fun _ => ?_) fun _ => ?_
    generalize hpp : dnames s.now = p at *
    refine rL_loop (σ := Nat) (fun i e K => K = H11 ∧ e 0 = .ptr j 0 ∧ e 1 = .ptr k 0 ∧ e 5 = .sl (p.map AV.str) ∧ e 6 = .i i ∧ i ≤ p.length) (fun i => p.length - i) 0 ?_ ?_
    · refine ⟨rfl, ?_, ?_, ?_, ?_, by omega⟩
      all_goals first | (simp (disch := first | assumption | omega) only [go_sem]; done) | (simp (disch := first | assumption | omega) only [go_sem]; rfl)
    · rintro i e K ⟨hK, g0, g1, g5, g6, i1⟩
      have hK := hK.symm
      subst hK
      by_cases hil : i < p.length
      · have hix := ix_at' hil
        generalize p[i] = x at *
        repeat' first | simp (disch := first | omega | assumption | decide) only [go_sem, hm, hz, ht, hr_, g0, g1, g5, g6, hix, cells_str, wdl, bind_some_, map_some_, oneD_fold] | refine ifP_in (fun _ => ?_) fun _ => ?_
        refine rF_use (peek_w hp.hd u1 x) ?_
        rintro _ K1 ⟨rfl, rfl⟩
        repeat' first | simp (disch := first | omega | assumption | decide) only [go_sem, hm, hz, ht, hr_, g0, g1, g5, g6, hix, cells_str, wdl, bind_some_, map_some_, oneD_fold] | refine ifP_in (fun _ => ?_) fun _ => ?_
        refine rF_use (rpeek_w hp.hr l2 u2 x) ?_
        rintro _ K2 ⟨rfl, rfl⟩
        repeat' first | simp (disch := first | omega | assumption | decide) only [go_sem, hm, hz, ht, hr_, g0, g1, g5, g6, hix, cells_str, wdl, bind_some_, map_some_, oneD_fold] | refine ifP_in (fun _ => ?_) fun _ => ?_
        refine rF_use (lbytes_w (Dk.data s.now x) (Dk.data r.now x) (.inl rfl) (.inl rfl)) ?_
        rintro _ K3 ⟨rfl, rfl⟩
        rw [decide_eq_true (hnow.data x).symm, ← hnow.has x]
        generalize Dk.has r.now x = q
        cases q
        all_goals
          repeat' first | simp (disch := first | omega | assumption | decide) only [go_sem, hm, hz, ht, hr_, g0, g1, g5, g6, wdl, bind_some_, map_some_, oneD_fold] | refine ifP_in (fun _ => ?_) fun _ => ?_
          exact ⟨i + 1, ⟨rfl, by omega⟩, by omega⟩
      · have : i = p.length := by omega
        subst this
        repeat' first | simp (disch := first | omega | assumption | decide) only [go_sem, hm, hz, ht, hr_, g0, g1, g5, g6, wdl, bind_some_, map_some_, oneD_fold] | refine ifP_in (fun _ => ?_) fun _ => ?_
end Jn
end Go.Proofs
