/- Walks: the log. -/
import Derived.Test.YtbfcbjmoijiffaaGreatDkAllax0
import Derived.Test.YtbfcbjmoijiffaaGreatJrAlldx0
import Derived.Test.YtbfcbjmoijiffaaGreatJlSpec
set_option linter.unusedVariables false
set_option linter.unusedSimpArgs false
namespace Go.Proofs
open Go.Lv
namespace Jn
open Dk (Files Bs Ch Ev)
variable {H : Heap}

theorem cells_by {l : List UInt8} : AV.cells (AV.bytes l) = [AV.bytes l] := rfl
theorem ixg {α : Type} [Inhabited α] {l : List α} {i : Nat} (h : i < l.length) : ix l (i : Int) = l[i] := by
  simp [ix, List.getD_eq_getElem?_getD, List.getElem?_eq_getElem h]
theorem jcopied_w (ps : List Bs) (hl : ps.length ≤ 2147483648) (hs : ∀ p ∈ ps, p.length ≤ 2147483648) : WF Tryz.prog cfg 43 [.sl (ps.map AV.bytes)] H (fun r H' => TokOf AV.bytes 1 H.length H' r ps ∧ H <+: H') := by
  have hm : ∀ d, cfg.muF 43 d = (false) := fun _ => rfl
  have hz : ∀ d, cfg.fzF 43 d = (false) := fun _ => rfl
  have ht : ∀ d, cfg.tkF 43 d = (d == 3 || d == 16) := fun _ => rfl
  have hr_ : ∀ g, cfg.raw g = (g == 68) := fun _ => rfl
  refine rF_fn rfl rfl Tryz.func43 rfl ?_
  repeat' first | simp (disch := first | omega | assumption | decide) only [go_sem, hm, hz, ht, hr_] | refine ifP_in (fun _ => ?_) fun _ => ?_
  refine rL_loop (σ := Nat) (fun i e K => H <+: K ∧ e 6 = .sl (ps.map AV.bytes) ∧ e 7 = .i ps.length ∧ e 8 = .i i ∧ i ≤ ps.length ∧ TokOf AV.bytes 1 H.length K (e 3) (ps.take i)) (fun i => ps.length - i) 0 ?_ ?_
  · refine ⟨List.prefix_refl _, ?_, ?_, ?_, by omega, ?_⟩
    all_goals first | (simp (disch := first | assumption | omega) only [go_sem]; done) | (simp (disch := first | assumption | omega) only [go_sem]; rfl) | (simp (disch := first | assumption | omega) only [go_sem, ht]; exact TokOf.nil)
  · rintro i e K ⟨hp, g6, g7, g8, i1, hr⟩
    generalize g3 : e 3 = a at *
    by_cases hi : i < ps.length
    · have hix := ixg hi
      have hpl := hs _ (List.getElem_mem hi)
      have hlt : (ps.take i).length = i := by rw [List.length_take]; omega
      repeat' first | simp (disch := first | omega | assumption | decide) only [go_sem, hm, hz, ht, hr_, g3, g6, g7, g8, hix, cells_by] | refine ifP_in (fun _ => ?_) fun _ => ?_
      refine rF_use (clone_w ps[i] (by omega) (.inl rfl)) ?_
      rintro _ K1 ⟨rfl, rfl⟩
      repeat' first | simp (disch := first | omega | assumption | decide) only [go_sem, hm, hz, ht, hr_, g3, g6, g7, g8, hix] | refine ifP_in (fun _ => ?_) fun _ => ?_
      refine bind_appendT (f := AV.bytes) (ys := [ps[i]]) hr hp (by omega) rfl (by simp) (by simp; omega) ?_
      intro a' K2 hr2 hp2
      repeat' first | simp (disch := first | omega | assumption | decide) only [go_sem, hm, hz, ht, hr_, g3, g6, g7, g8] | refine ifP_in (fun _ => ?_) fun _ => ?_
      refine ⟨i + 1, ⟨hp2, rfl, by omega, ?_⟩, by omega⟩
      rw [List.take_succ_eq_append_getElem hi]
      exact hr2
    · have : i = ps.length := by omega
      subst this
      rw [List.take_length] at hr
      repeat' first | simp (disch := first | omega | assumption | decide) only [go_sem, hm, hz, ht, hr_, g3, g6, g7, g8] | refine ifP_in (fun _ => ?_) fun _ => ?_
      exact ⟨hr, hp⟩

def fits (ps : List Bs) : Bool := ps.all fun p => decide (p.length ≤ 60000)
theorem jall_w (ps : List Bs) (hl : ps.length ≤ 2147483648) (hs : (Jr.frames ps).length ≤ 2147483648) (hps : ∀ p ∈ ps, p.length ≤ 2147483648) : WF Tryz.prog cfg 40 [.sl (ps.map AV.bytes)] H (fun r H' => r = (if fits ps = false then .tup [.sl [], .i 3] else .tup [.sl ((Jr.frames ps).map byteA), .i 0]) ∧ H <+: H') := by
  have hm : ∀ d, cfg.muF 40 d = (false) := fun _ => rfl
  have hz : ∀ d, cfg.fzF 40 d = (false) := fun _ => rfl
  have ht : ∀ d, cfg.tkF 40 d = (false) := fun _ => rfl
  have hr_ : ∀ g, cfg.raw g = (g == 68) := fun _ => rfl
  refine rF_fn rfl rfl Tryz.func40 rfl ?_
  repeat' first | simp (disch := first | omega | assumption | decide) only [go_sem, hm, hz, ht, hr_] | refine ifP_in (fun _ => ?_) fun _ => ?_
  refine rL_loop (σ := Nat) (fun i e K => H <+: K ∧ e 9 = .sl (ps.map AV.bytes) ∧ e 10 = .i ps.length ∧ e 11 = .i i ∧ i ≤ ps.length ∧ e 4 = .sl ((Jr.frames (ps.take i)).map byteA) ∧ fits (ps.take i) = true) (fun i => ps.length - i) 0 ?_ ?_
  · refine ⟨List.prefix_refl _, ?_, ?_, ?_, by omega, ?_, rfl⟩
    all_goals first | (simp (disch := first | assumption | omega) only [go_sem]; done) | (simp (disch := first | assumption | omega) only [go_sem]; rfl)
  · rintro i e K ⟨hp, g9, g10, g11, i1, g4, i2⟩
    by_cases hi : i < ps.length
    · have hix := ixg hi
      have hsn := Jr.frames_snoc ps i hi
      have hfl := Jr.frame_len ps[i]
      have hsp := Jr.frames_split ps (i + 1)
      have htot : (Jr.frames (ps.take (i + 1))).length ≤ (Jr.frames ps).length := by rw [hsp, List.length_append]; omega
      rw [hsn, List.length_append] at htot
      have hfs : fits (ps.take (i + 1)) = (fits (ps.take i) && decide ((ps[i]).length ≤ 60000)) := by unfold fits; rw [List.take_succ_eq_append_getElem hi, List.all_append]; simp
      repeat' first | simp (disch := first | omega | assumption | decide) only [go_sem, hm, hz, ht, hr_, g4, g9, g10, g11, hix, cells_by] | refine ifP_in (fun _ => ?_) fun _ => ?_
      refine rF_use (Frame_w ps[i] (by have := hps _ (List.getElem_mem hi); omega)) ?_
      rintro _ K1 ⟨rfl, hp1⟩
      by_cases hb : 60000 < (ps[i]).length
      · rw [if_pos hb]
        have : fits ps = false := by
          unfold fits
          rw [List.all_eq_false]
          exact ⟨ps[i], List.getElem_mem hi, by simp; omega⟩
        rw [if_pos this]
        repeat' first | simp (disch := first | omega | assumption | decide) only [go_sem, hm, hz, ht, hr_, g4, g9, g10, g11] | refine ifP_in (fun _ => ?_) fun _ => ?_
        exact List.IsPrefix.trans hp hp1
      · rw [if_neg hb]
        repeat' first | simp (disch := first | omega | assumption | decide) only [go_sem, hm, hz, ht, hr_, g4, g9, g10, g11] | refine ifP_in (fun _ => ?_) fun _ => ?_
        refine ⟨i + 1, ⟨List.IsPrefix.trans hp hp1, rfl, by omega, ?_, ?_⟩, by omega⟩
        · rw [hsn]
        · rw [hfs, i2, decide_eq_true (by omega)]; rfl
    · have : i = ps.length := by omega
      subst this
      rw [List.take_length] at g4 i2
      repeat' first | simp (disch := first | omega | assumption | decide) only [go_sem, hm, hz, ht, hr_, g4, g9, g10, g11] | refine ifP_in (fun _ => ?_) fun _ => ?_
      rw [if_neg (by rw [i2]; simp)]
      exact ⟨rfl, hp⟩
end Jn
end Go.Proofs
/- Walks: the log as it stands in memory. -/
set_option linter.unusedVariables false
set_option linter.unusedSimpArgs false
namespace Go.Proofs
open Go.Lv
namespace Jn
open Dk (Files Bs Ch Ev)
variable {H : Heap}

structure LogR (H : Heap) (jl j : Nat) (pr : AV) (Sd : List Nat) (n : Bs) (l : Jl.Log) (s : Dk.Disk) : Prop where
  hl : H[jl]? = some [.ptr j 0, AV.str n, pr, .b l.bad]
  recs : TokOf AV.bytes 1 0 H pr l.recs
  disk : DiskAt H j Sd s
  out : jl ∉ Sd
  tout : ∀ x ∈ tokP pr, x ∉ Sd
def LogAt (H : Heap) (jl j : Nat) (S : List Nat) (n : Bs) (l : Jl.Log) (s : Dk.Disk) : Prop := ∃ pr Sd, LogR H jl j pr Sd n l s ∧ S = jl :: (tokP pr ++ Sd)

theorem tok_lt {k : Nat} {α : Type} {f : α → AV} {a : AV} {xs : List α} (h : TokOf f k 0 H a xs) : ∀ x ∈ tokP a, x < H.length ∧ H[x]? = some [.tk (xs.length * k)] := by
  intro x hx
  rcases h with ⟨rfl, _⟩ | ⟨j, _, rfl, hj, _⟩
  · simp [tokP_nil] at hx
  · simp only [tokP, List.mem_singleton] at hx
    subst hx
    exact ⟨(List.getElem?_eq_some_iff.1 hj).1, hj⟩
theorem tok_same {k : Nat} {α : Type} {f : α → AV} {a : AV} {xs : List α} {H' : Heap} (h : TokOf f k 0 H a xs) (hs : ∀ x ∈ tokP a, H'[x]? = H[x]?) : TokOf f k 0 H' a xs := by
  rcases h with h | ⟨j, h1, rfl, hj, h4⟩
  · exact .inl h
  · exact .inr ⟨j, h1, rfl, by rw [hs j (by simp [tokP])]; exact hj, h4⟩
/-- The disk of a log went on. -/
theorem LogR.step {H' : Heap} {jl j : Nat} {pr : AV} {Sd S' : List Nat} {n : Bs} {l : Jl.Log} {s s' : Dk.Disk} (h : LogR H jl j pr Sd n l s) (hd : DiskAt H' j S' s') (hs : Step H Sd H' S') : LogR H' jl j pr S' n l s' ∧ Step H (jl :: (tokP pr ++ Sd)) H' (jl :: (tokP pr ++ S')) := by
  have hjl : jl < H.length := (List.getElem?_eq_some_iff.1 h.hl).1
  have hn : ∀ x, x < H.length → x ∉ Sd → x ∉ S' := fun x hx hxs hx' => by
    rcases hs.new x hx' with h1 | h1
    · exact hxs h1
    · omega
  refine ⟨⟨?_, ?_, hd, hn jl hjl h.out, fun x hx => hn x (tok_lt h.recs x hx).1 (h.tout x hx)⟩, ⟨hs.len, fun i hi hS => hs.same i hi (fun hm => hS (by simp [hm])), fun x hx => ?_⟩⟩
  · rw [hs.same jl hjl h.out]; exact h.hl
  · exact tok_same h.recs fun x hx => hs.same x (tok_lt h.recs x hx).1 (h.tout x hx)
  · rcases List.mem_cons.1 hx with rfl | hx
    · exact .inl (by simp)
    · rcases List.mem_append.1 hx with hx | hx
      · exact .inl (by simp [hx])
      · rcases hs.new x hx with h1 | h1
        · exact .inl (by simp [h1])
        · exact .inr h1
/-- The log's own cells are written. -/
theorem LogR.put {jl j : Nat} {pr : AV} {Sd : List Nat} {n : Bs} {l : Jl.Log} {s : Dk.Disk} (h : LogR H jl j pr Sd n l s) (b : Bool) : LogR (H.set jl [.ptr j 0, AV.str n, pr, .b b]) jl j pr Sd n { l with bad := b } s ∧ Step H (jl :: (tokP pr ++ Sd)) (H.set jl [.ptr j 0, AV.str n, pr, .b b]) (jl :: (tokP pr ++ Sd)) := by
  have hjl : jl < H.length := (List.getElem?_eq_some_iff.1 h.hl).1
  refine ⟨⟨get_set hjl, ?_, ?_, h.out, h.tout⟩, ⟨by simp, fun i hi hS => by rw [get_set_ne_ (fun he => hS (by simp [he]))], fun x hx => .inl hx⟩⟩
  · refine tok_same h.recs fun x hx => get_set_ne_ ?_
    rintro rfl
    have := (tok_lt h.recs _ hx).2
    rw [h.hl] at this; cases this
  · exact h.disk.same fun x hx => get_set_ne_ (by rintro rfl; exact h.out hx)
/-- Other records, in new memory. -/
theorem LogR.recs_set {H' : Heap} {jl j : Nat} {pr pr' : AV} {Sd : List Nat} {n : Bs} {l : Jl.Log} {s : Dk.Disk} {rs : List Bs} (h : LogR H jl j pr Sd n l s) (hlen : H.length ≤ H'.length) (hsame : ∀ x, x < H.length → x ∉ tokP pr → H'[x]? = H[x]?) (hr : TokOf AV.bytes 1 0 H' pr' rs) (hnew : ∀ x ∈ tokP pr', H.length ≤ x) :
    LogR (H'.set jl [.ptr j 0, AV.str n, pr', .b l.bad]) jl j pr' Sd n { l with recs := rs } s ∧ Step H (jl :: (tokP pr ++ Sd)) (H'.set jl [.ptr j 0, AV.str n, pr', .b l.bad]) (jl :: (tokP pr' ++ Sd)) := by
  have hjl : jl < H.length := (List.getElem?_eq_some_iff.1 h.hl).1
  have hdl := h.disk.lt
  refine ⟨⟨get_set (by omega), ?_, ?_, h.out, fun x hx hxs => by have := hnew x hx; have := hdl x hxs; omega⟩, ⟨by simp; omega, fun i hi hS => ?_, fun x hx => ?_⟩⟩
  · refine tok_same hr fun x hx => get_set_ne_ ?_
    have := hnew x hx
    omega
  · refine h.disk.same fun x hx => ?_
    rw [get_set_ne_ (by rintro rfl; exact h.out hx), hsame x (hdl x hx) (fun ht => h.tout x ht hx)]
  · simp only [List.mem_cons, List.mem_append, not_or] at hS
    rw [get_set_ne_ (fun he => hS.1 he.symm), hsame i hi hS.2.1]
  · rcases List.mem_cons.1 hx with rfl | hx
    · exact .inl (by simp)
    · rcases List.mem_append.1 hx with hx | hx
      · exact .inr (hnew x hx)
      · exact .inl (by simp [hx])

/-- Room for so many calls. -/
structure May (s : Dk.Disk) (k : Int) : Prop where
  ok : Dk.Ok s
  calls : s.calls + k < 1000000
  plan : s.plan.length < 1000000
theorem May.can {s : Dk.Disk} {k : Int} (h : May s k) (hk : 0 ≤ k) : Can s := ⟨h.ok, by have := h.calls; omega, h.plan⟩
theorem May.le {s : Dk.Disk} {k k' : Int} (h : May s k) (hk : k' ≤ k) : May s k' := ⟨h.ok, by have := h.calls; omega, h.plan⟩
theorem May.next {s s' : Dk.Disk} {k : Int} (h : May s k) (hk : Dk.Keeps s s') : May s' (k - 1) := ⟨hk.ok, by have := h.calls; have := hk.calls; omega, by rw [hk.plan]; exact h.plan⟩

theorem jappend_w {jl j : Nat} {S : List Nat} {n : Bs} {l : Jl.Log} {s : Dk.Disk} (h : LogAt H jl j S n l s) (hmay : May s 2) (hn : n.length ≤ 100000) (hr : l.recs.length ≤ 2147483648) (p : Bs) (hp : p.length ≤ 140737488355328) :
    WF Tryz.prog cfg 10 [.ptr jl 0, .sl (p.map byteA)] H (fun r H' => r = .i (Jl.append s n l p).2.2 ∧ ∃ S', LogAt H' jl j S' n (Jl.append s n l p).2.1 (Jl.append s n l p).1 ∧ Step H S H' S') := by
  obtain ⟨pr, Sd, hL, rfl⟩ := h
  have hl := hL.hl
  have hm : ∀ d, cfg.muF 10 d = (false) := fun _ => rfl
  have hz : ∀ d, cfg.fzF 10 d = (false) := fun _ => rfl
  have ht : ∀ d, cfg.tkF 10 d = (d == 51) := fun _ => rfl
  have hr_ : ∀ g, cfg.raw g = (g == 68) := fun _ => rfl
  refine rF_fn rfl rfl Tryz.func10 rfl ?_
  unfold Jl.append
  cases hbad : l.bad with
  | true =>
    rw [if_pos rfl]
    rw [hbad] at hl
    repeat' first | simp (disch := first | omega | assumption | decide) only [go_sem, hm, hz, ht, hr_, hl, wdl, bind_some_, map_some_, oneD_fold] | refine ifP_in (fun _ => ?_) fun _ => ?_
    exact ⟨_, ⟨pr, Sd, hL, rfl⟩, Step.refl _ _⟩
  | false =>
    rw [if_neg (by simp)]
    rw [hbad] at hl
    repeat' first | simp (disch := first | omega | assumption | decide) only [go_sem, hm, hz, ht, hr_, hl, wdl, bind_some_, map_some_, oneD_fold] | refine ifP_in (fun _ => ?_) fun _ => ?_
    refine rF_use (Frame_w p hp) ?_
    rintro _ H1 ⟨rfl, hp1⟩
    have g1 : ∀ x, x < H.length → H1[x]? = H[x]? := fun x hx => by
      obtain ⟨G, rfl⟩ := hp1
      exact List.getElem?_append_left hx
    obtain ⟨hL1, hs1⟩ := hL.step (hL.disk.grew g1) (Step.grew (pre_len hp1) g1)
    have hl1 := hL1.hl
    rw [hbad] at hl1
    have hfl := Jr.frame_len p
    by_cases hbig : 60000 < p.length
    · rw [if_pos hbig, if_pos hbig]
      repeat' first | simp (disch := first | omega | assumption | decide) only [go_sem, hm, hz, ht, hr_, hl1, wdl, bind_some_, map_some_, oneD_fold] | refine ifP_in (fun _ => ?_) fun _ => ?_
      exact ⟨_, ⟨pr, Sd, hL1, rfl⟩, hs1⟩
    · rw [if_neg hbig, if_neg hbig]
      repeat' first | simp (disch := first | omega | assumption | decide) only [go_sem, hm, hz, ht, hr_, hl1, wdl, bind_some_, map_some_, oneD_fold] | refine ifP_in (fun _ => ?_) fun _ => ?_
      refine rF_use (append_w hL1.disk (hmay.can (by omega)) n (Jr.frame p) (by omega) (by omega)) ?_
      rintro _ H2 ⟨rfl, S2, hd2, hs2⟩
      have hm2 := hmay.next (Dk.Keeps.append hmay.ok n (Jr.frame p))
      obtain ⟨hL2, hs2⟩ := hL1.step hd2 hs2
      have hl2 := hL2.hl
      rw [hbad] at hl2
      generalize Dk.append s n (Jr.frame p) = r at *
      by_cases h0 : r.2 = 0
      · rw [if_neg (show ¬ r.2 ≠ 0 from fun h => h h0)]
        repeat' first | simp (disch := first | omega | assumption | decide) only [go_sem, hm, hz, ht, hr_, hl2, h0, wdl, bind_some_, map_some_, oneD_fold] | refine ifP_in (fun _ => ?_) fun _ => ?_
        refine rF_use (sync_w hL2.disk (hm2.can (by omega))) ?_
        rintro _ H3 ⟨rfl, S3, hd3, hs3⟩
        obtain ⟨hL3, hs3⟩ := hL2.step hd3 hs3
        have hl3 := hL3.hl
        rw [hbad] at hl3
        generalize Dk.sync r.1 = q at *
        by_cases h1 : q.2 = 0
        · rw [if_neg (show ¬ q.2 ≠ 0 from fun h => h h1)]
          repeat' first | simp (disch := first | omega | assumption | decide) only [go_sem, hm, hz, ht, hr_, hl3, h1, wdl, bind_some_, map_some_, oneD_fold] | refine ifP_in (fun _ => ?_) fun _ => ?_
          refine rF_use (clone_w p (by omega) (.inl rfl)) ?_
          rintro _ H4 ⟨rfl, rfl⟩
          repeat' first | simp (disch := first | omega | assumption | decide) only [go_sem, hm, hz, ht, hr_, hl3, wdl, bind_some_, map_some_, oneD_fold] | refine ifP_in (fun _ => ?_) fun _ => ?_
          refine bind_appendF (f := AV.bytes) (ys := [p]) hL3.recs (by omega) rfl (by simp) (by simp; omega) ?_
          intro a' H5 hp5 hs5 hl5 ht5 ho5
          have hjt : jl ∉ tokP pr := fun hx => by have := (tok_lt hL3.recs _ hx).2; rw [hl3] at this; cases this
          have hjl3 : jl < H4.length := (List.getElem?_eq_some_iff.1 hl3).1
          have hl5' : H5[jl]? = some [.ptr j 0, AV.str n, pr, .b false] := by rw [hs5 jl hjl3 hjt]; exact hl3
          have hst : ∀ o cs, storeC Tryz.prog 39 H5 jl o a' cs = storeS H5 jl o a' cs := fun o cs => storeC_one ho5.1 ho5.2
          repeat' first | simp (disch := first | omega | assumption | decide) only [go_sem, hm, hz, ht, hr_, hl5', hst, wdl, bind_some_, map_some_, oneD_fold] | refine ifP_in (fun _ => ?_) fun _ => ?_
          refine ⟨Or.inl (by decide +kernel), ?_⟩
          repeat' first | simp (disch := first | omega | assumption | decide) only [go_sem, hm, hz, ht, hr_, hl5', hst, wdl, bind_some_, map_some_, oneD_fold] | refine ifP_in (fun _ => ?_) fun _ => ?_
          obtain ⟨hL5, hs6⟩ := hL3.recs_set (H' := H5) (pr' := a') (rs := l.recs ++ [p]) hl5 hs5 hp5 (by rw [ht5]; intro x hx; simp at hx; omega)
          rw [hbad] at hL5 hs6
          exact ⟨_, ⟨a', S3, hL5, rfl⟩, ((hs1.trans hs2).trans hs3).trans hs6⟩
        · rw [if_pos h1]
          repeat' first | simp (disch := first | omega | assumption | decide) only [go_sem, hm, hz, ht, hr_, hl3, h1, wdl, bind_some_, map_some_, oneD_fold] | refine ifP_in (fun _ => ?_) fun _ => ?_
          obtain ⟨hL4, hs4⟩ := hL3.put true
          exact ⟨_, ⟨pr, S3, hL4, rfl⟩, ((hs1.trans hs2).trans hs3).trans hs4⟩
      · rw [if_pos h0]
        repeat' first | simp (disch := first | omega | assumption | decide) only [go_sem, hm, hz, ht, hr_, hl2, h0, wdl, bind_some_, map_some_, oneD_fold] | refine ifP_in (fun _ => ?_) fun _ => ?_
        exact ⟨_, ⟨pr, S2, hL2, rfl⟩, hs1.trans hs2⟩
end Jn
end Go.Proofs
