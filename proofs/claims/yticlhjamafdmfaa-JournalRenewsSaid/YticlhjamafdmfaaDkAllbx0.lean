/- Walks: the log. -/
import Derived.Test.YticlhjamafdmfaaDkAllax0
import Derived.Test.YticlhjamafdmfaaJrAllcx0
import Derived.Test.YticlhjamafdmfaaJlSpec
set_option linter.unusedVariables false
set_option linter.unusedSimpArgs false
namespace Go.Proofs
open Go.Lv
namespace Jn
open Dk (Files Bs Ch Ev)
variable {H : Heap}

theorem cells_by {l : List UInt8} : AV.cells (AV.bytes l) = [AV.bytes l] := rfl
theorem ixg {α : Type} [Inhabited α] {l : List α} {i : Nat} (h : i < l.length) : ix l (i : Int) = l[i] := by
  simp [ix, List.getD_eq_getElem?_getD, List.getElem?_eq_getElem h]
theorem jcopied_w (ps : List Bs) (hl : ps.length < 1000000) (hs : ∀ p ∈ ps, p.length ≤ 1000000000) : WF Try.prog cfg 60 [.sl (ps.map AV.bytes)] H (fun r H' => TokOf AV.bytes 1 H.length H' r ps ∧ H <+: H') := by
  have hm : ∀ d, cfg.muF 60 d = (false) := fun _ => rfl
  have hz : ∀ d, cfg.fzF 60 d = (false) := fun _ => rfl
  have ht : ∀ d, cfg.tkF 60 d = (d == 3 || d == 16) := fun _ => rfl
  have hr_ : ∀ g, cfg.raw g = (g == 58 || g == 69) := fun _ => rfl
  refine rF_fn rfl rfl Try.func60 rfl ?_
  repeat' (first | simp (disch := first | omega | assumption | decide) only [go_sem, hm, hz, ht, hr_] | refine ifP_in (fun _ => ?_) (fun _ => ?_))
  refine rL_loop (σ := Nat) (fun i e K => H <+: K ∧ e 6 = .sl (ps.map AV.bytes) ∧ e 7 = .i ps.length ∧ e 8 = .i i ∧ i ≤ ps.length ∧ TokOf AV.bytes 1 H.length K (e 3) (ps.take i)) (fun i => ps.length - i) 0 ?_ ?_
  · refine ⟨List.prefix_refl _, ?_, ?_, ?_, by omega, ?_⟩
    all_goals first | (simp (disch := first | assumption | omega) only [go_sem]; done) | (simp (disch := first | assumption | omega) only [go_sem]; rfl) | (simp (disch := first | assumption | omega) only [go_sem, ht]; exact TokOf.nil)
  · rintro i e K ⟨hp, g6, g7, g8, i1, hr⟩
    generalize g3 : e 3 = a at *
    by_cases hi : i < ps.length
    · have hix := ixg hi
      have hpl := hs _ (List.getElem_mem hi)
      have hlt : (ps.take i).length = i := by rw [List.length_take]; omega
      repeat' (first | simp (disch := first | omega | assumption | decide) only [go_sem, hm, hz, ht, hr_, g3, g6, g7, g8, hix, cells_by] | refine ifP_in (fun _ => ?_) (fun _ => ?_))
      refine rF_use (clone_w ps[i] (by omega) (.inl rfl)) ?_
      rintro _ K1 ⟨rfl, rfl⟩
      repeat' (first | simp (disch := first | omega | assumption | decide) only [go_sem, hm, hz, ht, hr_, g3, g6, g7, g8, hix] | refine ifP_in (fun _ => ?_) (fun _ => ?_))
      refine bind_appendT (f := AV.bytes) (ys := [ps[i]]) hr hp (by omega) rfl (by simp) (by simp; omega) ?_
      intro a' K2 hr2 hp2
      repeat' (first | simp (disch := first | omega | assumption | decide) only [go_sem, hm, hz, ht, hr_, g3, g6, g7, g8] | refine ifP_in (fun _ => ?_) (fun _ => ?_))
      refine ⟨i + 1, ⟨hp2, rfl, by omega, ?_⟩, by omega⟩
      rw [List.take_succ_eq_append_getElem hi]
      exact hr2
    · have : i = ps.length := by omega
      subst this
      rw [List.take_length] at hr
      repeat' (first | simp (disch := first | omega | assumption | decide) only [go_sem, hm, hz, ht, hr_, g3, g6, g7, g8] | refine ifP_in (fun _ => ?_) (fun _ => ?_))
      exact ⟨hr, hp⟩

def fits (ps : List Bs) : Bool := ps.all fun p => decide (p.length ≤ 60000)
theorem jall_w (ps : List Bs) (hl : ps.length < 1000000) (hs : (Jr.frames ps).length ≤ 100000000) (hps : ∀ p ∈ ps, p.length < 1000000) : WF Try.prog cfg 59 [.sl (ps.map AV.bytes)] H (fun r H' => r = (if fits ps = false then .tup [.sl [], .i 3] else .tup [.sl ((Jr.frames ps).map byteA), .i 0]) ∧ H <+: H') := by
  have hm : ∀ d, cfg.muF 59 d = (false) := fun _ => rfl
  have hz : ∀ d, cfg.fzF 59 d = (false) := fun _ => rfl
  have ht : ∀ d, cfg.tkF 59 d = (false) := fun _ => rfl
  have hr_ : ∀ g, cfg.raw g = (g == 58 || g == 69) := fun _ => rfl
  refine rF_fn rfl rfl Try.func59 rfl ?_
  repeat' (first | simp (disch := first | omega | assumption | decide) only [go_sem, hm, hz, ht, hr_] | refine ifP_in (fun _ => ?_) (fun _ => ?_))
  refine rL_loop (σ := Nat) (fun i e K => H <+: K ∧ e 9 = .sl (ps.map AV.bytes) ∧ e 10 = .i ps.length ∧ e 11 = .i i ∧ i ≤ ps.length ∧ e 4 = .sl ((Jr.frames (ps.take i)).map byteA) ∧ fits (ps.take i) = true) (fun i => ps.length - i) 0 ?_ ?_
  · refine ⟨List.prefix_refl _, ?_, ?_, ?_, by omega, ?_, rfl⟩
    all_goals first | (simp (disch := first | assumption | omega) only [go_sem]; done) | (simp (disch := first | assumption | omega) only [go_sem]; rfl)
  · rintro i e K ⟨hp, g9, g10, g11, i1, g4, i2⟩
    by_cases hi : i < ps.length
    · have hix := ixg hi
      have hsn := Jr.frames_snoc ps i hi
      have hfl := Jr.frame_len ps[i]
      have hsp := Jr.frames_split ps (i + 1)
      have htot : (Jr.frames (ps.take (i + 1))).length ≤ (Jr.frames ps).length := by rw [hsp, List.length_append]; omega
      rw [hsn, List.length_append] at htot
      have hfs : fits (ps.take (i + 1)) = (fits (ps.take i) && decide ((ps[i]).length ≤ 60000)) := by unfold fits; rw [List.take_succ_eq_append_getElem hi, List.all_append]; simp
      repeat' (first | simp (disch := first | omega | assumption | decide) only [go_sem, hm, hz, ht, hr_, g4, g9, g10, g11, hix, cells_by] | refine ifP_in (fun _ => ?_) (fun _ => ?_))
      refine rF_use (Frame_w ps[i] (hps _ (List.getElem_mem hi))) ?_
      rintro _ K1 ⟨rfl, hp1⟩
      by_cases hb : 60000 < (ps[i]).length
      · rw [if_pos hb]
        have : fits ps = false := by
          unfold fits
          rw [List.all_eq_false]
          exact ⟨ps[i], List.getElem_mem hi, by simp; omega⟩
        rw [if_pos this]
        repeat' (first | simp (disch := first | omega | assumption | decide) only [go_sem, hm, hz, ht, hr_, g4, g9, g10, g11] | refine ifP_in (fun _ => ?_) (fun _ => ?_))
        exact List.IsPrefix.trans hp hp1
      · rw [if_neg hb]
        repeat' (first | simp (disch := first | omega | assumption | decide) only [go_sem, hm, hz, ht, hr_, g4, g9, g10, g11] | refine ifP_in (fun _ => ?_) (fun _ => ?_))
        refine ⟨i + 1, ⟨List.IsPrefix.trans hp hp1, rfl, by omega, ?_, ?_⟩, by omega⟩
        · rw [hsn]
        · rw [hfs, i2, decide_eq_true (by omega)]; rfl
    · have : i = ps.length := by omega
      subst this
      rw [List.take_length] at g4 i2
      repeat' (first | simp (disch := first | omega | assumption | decide) only [go_sem, hm, hz, ht, hr_, g4, g9, g10, g11] | refine ifP_in (fun _ => ?_) (fun _ => ?_))
      rw [if_neg (by rw [i2]; simp)]
      exact ⟨rfl, hp⟩
end Jn
end Go.Proofs
/- Walks: the log as it stands in memory. -/
set_option linter.unusedVariables false
set_option linter.unusedSimpArgs false
namespace Go.Proofs
open Go.Lv
namespace Jn
open Dk (Files Bs Ch Ev)
variable {H : Heap}

structure LogR (H : Heap) (jl j : Nat) (pr : AV) (Sd : List Nat) (n : Bs) (l : Jl.Log) (s : Dk.Disk) : Prop where
  hl : H[jl]? = some [.ptr j 0, AV.str n, pr, .b l.bad]
  recs : TokOf AV.bytes 1 0 H pr l.recs
  disk : DiskAt H j Sd s
  out : jl ∉ Sd
  tout : ∀ x ∈ tokP pr, x ∉ Sd
def LogAt (H : Heap) (jl j : Nat) (S : List Nat) (n : Bs) (l : Jl.Log) (s : Dk.Disk) : Prop := ∃ pr Sd, LogR H jl j pr Sd n l s ∧ S = jl :: (tokP pr ++ Sd)

theorem tok_lt {k : Nat} {α : Type} {f : α → AV} {a : AV} {xs : List α} (h : TokOf f k 0 H a xs) : ∀ x ∈ tokP a, x < H.length ∧ H[x]? = some [.tk (xs.length * k)] := by
  intro x hx
  rcases h with ⟨rfl, _⟩ | ⟨j, _, rfl, hj, _⟩
  · simp [tokP_nil] at hx
  · simp only [tokP, List.mem_singleton] at hx
    subst hx
    exact ⟨(List.getElem?_eq_some_iff.1 hj).1, hj⟩
theorem tok_same {k : Nat} {α : Type} {f : α → AV} {a : AV} {xs : List α} {H' : Heap} (h : TokOf f k 0 H a xs) (hs : ∀ x ∈ tokP a, H'[x]? = H[x]?) : TokOf f k 0 H' a xs := by
  rcases h with h | ⟨j, h1, rfl, hj, h4⟩
  · exact .inl h
  · exact .inr ⟨j, h1, rfl, by rw [hs j (by simp [tokP])]; exact hj, h4⟩
/-- The disk of a log went on. -/
theorem LogR.step {H' : Heap} {jl j : Nat} {pr : AV} {Sd S' : List Nat} {n : Bs} {l : Jl.Log} {s s' : Dk.Disk} (h : LogR H jl j pr Sd n l s) (hd : DiskAt H' j S' s') (hs : Step H Sd H' S') : LogR H' jl j pr S' n l s' ∧ Step H (jl :: (tokP pr ++ Sd)) H' (jl :: (tokP pr ++ S')) := by
  have hjl : jl < H.length := (List.getElem?_eq_some_iff.1 h.hl).1
  have hn : ∀ x, x < H.length → x ∉ Sd → x ∉ S' := fun x hx hxs hx' => by
    rcases hs.new x hx' with h1 | h1
    · exact hxs h1
    · omega
  refine ⟨⟨?_, ?_, hd, hn jl hjl h.out, fun x hx => hn x (tok_lt h.recs x hx).1 (h.tout x hx)⟩, ⟨hs.len, fun i hi hS => hs.same i hi (fun hm => hS (by simp [hm])), fun x hx => ?_⟩⟩
  · rw [hs.same jl hjl h.out]; exact h.hl
  · exact tok_same h.recs fun x hx => hs.same x (tok_lt h.recs x hx).1 (h.tout x hx)
  · rcases List.mem_cons.1 hx with rfl | hx
    · exact .inl (by simp)
    · rcases List.mem_append.1 hx with hx | hx
      · exact .inl (by simp [hx])
      · rcases hs.new x hx with h1 | h1
        · exact .inl (by simp [h1])
        · exact .inr h1
/-- The log's own cells are written. -/
theorem LogR.put {jl j : Nat} {pr : AV} {Sd : List Nat} {n : Bs} {l : Jl.Log} {s : Dk.Disk} (h : LogR H jl j pr Sd n l s) (b : Bool) : LogR (H.set jl [.ptr j 0, AV.str n, pr, .b b]) jl j pr Sd n { l with bad := b } s ∧ Step H (jl :: (tokP pr ++ Sd)) (H.set jl [.ptr j 0, AV.str n, pr, .b b]) (jl :: (tokP pr ++ Sd)) := by
  have hjl : jl < H.length := (List.getElem?_eq_some_iff.1 h.hl).1
  refine ⟨⟨get_set hjl, ?_, ?_, h.out, h.tout⟩, ⟨by simp, fun i hi hS => by rw [get_set_ne_ (fun he => hS (by simp [he]))], fun x hx => .inl hx⟩⟩
  · refine tok_same h.recs fun x hx => get_set_ne_ ?_
    rintro rfl
    have := (tok_lt h.recs _ hx).2
    rw [h.hl] at this; cases this
  · exact h.disk.same fun x hx => get_set_ne_ (by rintro rfl; exact h.out hx)
/-- Other records, in new memory. -/
theorem LogR.recs_set {H' : Heap} {jl j : Nat} {pr pr' : AV} {Sd : List Nat} {n : Bs} {l : Jl.Log} {s : Dk.Disk} {rs : List Bs} (h : LogR H jl j pr Sd n l s) (hlen : H.length ≤ H'.length) (hsame : ∀ x, x < H.length → x ∉ tokP pr → H'[x]? = H[x]?) (hr : TokOf AV.bytes 1 0 H' pr' rs) (hnew : ∀ x ∈ tokP pr', H.length ≤ x) :
    LogR (H'.set jl [.ptr j 0, AV.str n, pr', .b l.bad]) jl j pr' Sd n { l with recs := rs } s ∧ Step H (jl :: (tokP pr ++ Sd)) (H'.set jl [.ptr j 0, AV.str n, pr', .b l.bad]) (jl :: (tokP pr' ++ Sd)) := by
  have hjl : jl < H.length := (List.getElem?_eq_some_iff.1 h.hl).1
  have hdl := h.disk.lt
  refine ⟨⟨get_set (by omega), ?_, ?_, h.out, fun x hx hxs => by have := hnew x hx; have := hdl x hxs; omega⟩, ⟨by simp; omega, fun i hi hS => ?_, fun x hx => ?_⟩⟩
  · refine tok_same hr fun x hx => get_set_ne_ ?_
    have := hnew x hx
    omega
  · refine h.disk.same fun x hx => ?_
    rw [get_set_ne_ (by rintro rfl; exact h.out hx), hsame x (hdl x hx) (fun ht => h.tout x ht hx)]
  · simp only [List.mem_cons, List.mem_append, not_or] at hS
    rw [get_set_ne_ (fun he => hS.1 he.symm), hsame i hi hS.2.1]
  · rcases List.mem_cons.1 hx with rfl | hx
    · exact .inl (by simp)
    · rcases List.mem_append.1 hx with hx | hx
      · exact .inr (hnew x hx)
      · exact .inl (by simp [hx])

/-- Room for so many calls. -/
structure May (s : Dk.Disk) (k : Int) : Prop where
  ok : Dk.Ok s
  calls : s.calls + k < 1000000
  plan : s.plan.length < 1000000
theorem May.can {s : Dk.Disk} {k : Int} (h : May s k) (hk : 0 ≤ k) : Can s := ⟨h.ok, by have := h.calls; omega, h.plan⟩
theorem May.le {s : Dk.Disk} {k k' : Int} (h : May s k) (hk : k' ≤ k) : May s k' := ⟨h.ok, by have := h.calls; omega, h.plan⟩
theorem May.next {s s' : Dk.Disk} {k : Int} (h : May s k) (hk : Dk.Keeps s s') : May s' (k - 1) := ⟨hk.ok, by have := h.calls; have := hk.calls; omega, by rw [hk.plan]; exact h.plan⟩

theorem jappend_w {jl j : Nat} {S : List Nat} {n : Bs} {l : Jl.Log} {s : Dk.Disk} (h : LogAt H jl j S n l s) (hmay : May s 2) (hn : n.length ≤ 100000) (hr : l.recs.length < 1000000) (p : Bs) (hp : p.length < 1000000) :
    WF Try.prog cfg 22 [.ptr jl 0, .sl (p.map byteA)] H (fun r H' => r = .i (Jl.append s n l p).2.2 ∧ ∃ S', LogAt H' jl j S' n (Jl.append s n l p).2.1 (Jl.append s n l p).1 ∧ Step H S H' S') := by
  obtain ⟨pr, Sd, hL, rfl⟩ := h
  have hl := hL.hl
  have hm : ∀ d, cfg.muF 22 d = (false) := fun _ => rfl
  have hz : ∀ d, cfg.fzF 22 d = (false) := fun _ => rfl
  have ht : ∀ d, cfg.tkF 22 d = (d == 51) := fun _ => rfl
  have hr_ : ∀ g, cfg.raw g = (g == 58 || g == 69) := fun _ => rfl
  refine rF_fn rfl rfl Try.func22 rfl ?_
  unfold Jl.append
  cases hbad : l.bad with
  | true =>
    rw [if_pos rfl]
    rw [hbad] at hl
    repeat' (first | simp (disch := first | omega | assumption | decide) only [go_sem, hm, hz, ht, hr_, hl, store_ptr, get_end_, get_old_, get_set_self_, get_set_ne_, len_set_, len_add_, bind_some_, map_some_, oneD_fold] | refine ifP_in (fun _ => ?_) (fun _ => ?_))
    exact ⟨_, ⟨pr, Sd, hL, rfl⟩, Step.refl _ _⟩
  | false =>
    rw [if_neg (by simp)]
    rw [hbad] at hl
    repeat' (first | simp (disch := first | omega | assumption | decide) only [go_sem, hm, hz, ht, hr_, hl, store_ptr, get_end_, get_old_, get_set_self_, get_set_ne_, len_set_, len_add_, bind_some_, map_some_, oneD_fold] | refine ifP_in (fun _ => ?_) (fun _ => ?_))
    refine rF_use (Frame_w p hp) ?_
    rintro _ H1 ⟨rfl, hp1⟩
    have g1 : ∀ x, x < H.length → H1[x]? = H[x]? := fun x hx => by
      obtain ⟨G, rfl⟩ := hp1
      exact List.getElem?_append_left hx
    obtain ⟨hL1, hs1⟩ := hL.step (hL.disk.grew g1) (Step.grew (pre_len hp1) g1)
    have hl1 := hL1.hl
    rw [hbad] at hl1
    have hfl := Jr.frame_len p
    by_cases hbig : 60000 < p.length
    · rw [if_pos hbig, if_pos hbig]
      repeat' (first | simp (disch := first | omega | assumption | decide) only [go_sem, hm, hz, ht, hr_, hl1, store_ptr, get_end_, get_old_, get_set_self_, get_set_ne_, len_set_, len_add_, bind_some_, map_some_, oneD_fold] | refine ifP_in (fun _ => ?_) (fun _ => ?_))
      exact ⟨_, ⟨pr, Sd, hL1, rfl⟩, hs1⟩
    · rw [if_neg hbig, if_neg hbig]
      repeat' (first | simp (disch := first | omega | assumption | decide) only [go_sem, hm, hz, ht, hr_, hl1, store_ptr, get_end_, get_old_, get_set_self_, get_set_ne_, len_set_, len_add_, bind_some_, map_some_, oneD_fold] | refine ifP_in (fun _ => ?_) (fun _ => ?_))
      refine rF_use (append_w hL1.disk (hmay.can (by omega)) n (Jr.frame p) (by omega) (by omega)) ?_
      rintro _ H2 ⟨rfl, S2, hd2, hs2⟩
      have hm2 := hmay.next (Dk.Keeps.append hmay.ok n (Jr.frame p))
      obtain ⟨hL2, hs2⟩ := hL1.step hd2 hs2
      have hl2 := hL2.hl
      rw [hbad] at hl2
      generalize Dk.append s n (Jr.frame p) = r at *
      by_cases h0 : r.2 = 0
      · rw [if_neg (show ¬ r.2 ≠ 0 from fun h => h h0)]
        repeat' (first | simp (disch := first | omega | assumption | decide) only [go_sem, hm, hz, ht, hr_, hl2, h0, store_ptr, get_end_, get_old_, get_set_self_, get_set_ne_, len_set_, len_add_, bind_some_, map_some_, oneD_fold] | refine ifP_in (fun _ => ?_) (fun _ => ?_))
        refine rF_use (sync_w hL2.disk (hm2.can (by omega))) ?_
        rintro _ H3 ⟨rfl, S3, hd3, hs3⟩
        obtain ⟨hL3, hs3⟩ := hL2.step hd3 hs3
        have hl3 := hL3.hl
        rw [hbad] at hl3
        generalize Dk.sync r.1 = q at *
        by_cases h1 : q.2 = 0
        · rw [if_neg (show ¬ q.2 ≠ 0 from fun h => h h1)]
          repeat' (first | simp (disch := first | omega | assumption | decide) only [go_sem, hm, hz, ht, hr_, hl3, h1, store_ptr, get_end_, get_old_, get_set_self_, get_set_ne_, len_set_, len_add_, bind_some_, map_some_, oneD_fold] | refine ifP_in (fun _ => ?_) (fun _ => ?_))
          refine rF_use (clone_w p (by omega) (.inl rfl)) ?_
          rintro _ H4 ⟨rfl, rfl⟩
          repeat' (first | simp (disch := first | omega | assumption | decide) only [go_sem, hm, hz, ht, hr_, hl3, store_ptr, get_end_, get_old_, get_set_self_, get_set_ne_, len_set_, len_add_, bind_some_, map_some_, oneD_fold] | refine ifP_in (fun _ => ?_) (fun _ => ?_))
          refine bind_appendF (f := AV.bytes) (ys := [p]) hL3.recs (by omega) rfl (by simp) (by simp; omega) ?_
          intro a' H5 hp5 hs5 hl5 ht5 ho5
          have hjt : jl ∉ tokP pr := fun hx => by have := (tok_lt hL3.recs _ hx).2; rw [hl3] at this; cases this
          have hjl3 : jl < H4.length := (List.getElem?_eq_some_iff.1 hl3).1
          have hl5' : H5[jl]? = some [.ptr j 0, AV.str n, pr, .b false] := by rw [hs5 jl hjl3 hjt]; exact hl3
          have hst : ∀ o cs, storeC Try.prog 28 H5 jl o a' cs = storeS H5 jl o a' cs := fun o cs => storeC_one ho5.1 ho5.2
          repeat' (first | simp (disch := first | omega | assumption | decide) only [go_sem, hm, hz, ht, hr_, hl5', hst, store_ptr, get_end_, get_old_, get_set_self_, get_set_ne_, len_set_, len_add_, bind_some_, map_some_, oneD_fold] | refine ifP_in (fun _ => ?_) (fun _ => ?_))
          refine ⟨Or.inl (by decide +kernel), ?_⟩
          repeat' (first | simp (disch := first | omega | assumption | decide) only [go_sem, hm, hz, ht, hr_, hl5', hst, store_ptr, get_end_, get_old_, get_set_self_, get_set_ne_, len_set_, len_add_, bind_some_, map_some_, oneD_fold] | refine ifP_in (fun _ => ?_) (fun _ => ?_))
          obtain ⟨hL5, hs6⟩ := hL3.recs_set (H' := H5) (pr' := a') (rs := l.recs ++ [p]) hl5 hs5 hp5 (by rw [ht5]; intro x hx; simp at hx; omega)
          rw [hbad] at hL5 hs6
          exact ⟨_, ⟨a', S3, hL5, rfl⟩, ((hs1.trans hs2).trans hs3).trans hs6⟩
        · rw [if_pos h1]
          repeat' (first | simp (disch := first | omega | assumption | decide) only [go_sem, hm, hz, ht, hr_, hl3, h1, store_ptr, get_end_, get_old_, get_set_self_, get_set_ne_, len_set_, len_add_, bind_some_, map_some_, oneD_fold] | refine ifP_in (fun _ => ?_) (fun _ => ?_))
          obtain ⟨hL4, hs4⟩ := hL3.put true
          exact ⟨_, ⟨pr, S3, hL4, rfl⟩, ((hs1.trans hs2).trans hs3).trans hs4⟩
      · rw [if_pos h0]
        repeat' (first | simp (disch := first | omega | assumption | decide) only [go_sem, hm, hz, ht, hr_, hl2, h0, store_ptr, get_end_, get_old_, get_set_self_, get_set_ne_, len_set_, len_add_, bind_some_, map_some_, oneD_fold] | refine ifP_in (fun _ => ?_) (fun _ => ?_))
        exact ⟨_, ⟨pr, S2, hL2, rfl⟩, hs1.trans hs2⟩
end Jn
end Go.Proofs
/- Walks: the log is renewed and opened. -/
set_option linter.unusedVariables false
set_option linter.unusedSimpArgs false
namespace Go.Proofs
open Go.Lv
namespace Jn
open Dk (Files Bs Ch Ev)
variable {H : Heap}

theorem jrenew_w {jl j : Nat} {S : List Nat} {n : Bs} {l : Jl.Log} {s : Dk.Disk} (h : LogAt H jl j S n l s) (hmay : May s 5) (hn : n.length ≤ 100000) (ps : List Bs) (hpl : ps.length < 1000000) (hf : (Jr.frames ps).length ≤ 100000000) (hps : ∀ p ∈ ps, p.length < 1000000) :
    WF Try.prog cfg 25 [.ptr jl 0, .sl (ps.map AV.bytes)] H (fun r H' => r = .i (Jl.renew s n l ps).2.2 ∧ ∃ S', LogAt H' jl j S' n (Jl.renew s n l ps).2.1 (Jl.renew s n l ps).1 ∧ Step H S H' S') := by
  obtain ⟨pr, Sd, hL, rfl⟩ := h
  have hl := hL.hl
  have hfl : (Jl.fresh n).length = n.length + 4 := by simp [Jl.fresh]
  have hfn : ∀ {P : Program} {xt : TypeId}, bin P .add xt (AV.str n) (AV.str [46, 110, 101, 119]) = some (AV.str (Jl.fresh n)) := by
    intro P xt
    have : (([46, 110, 101, 119] : List UInt8).length : Int) = 4 := rfl
    unfold Jl.fresh
    simp (disch := omega) only [go_sem]
  have hm : ∀ d, cfg.muF 25 d = (false) := fun _ => rfl
  have hz : ∀ d, cfg.fzF 25 d = (false) := fun _ => rfl
  have ht : ∀ d, cfg.tkF 25 d = (false) := fun _ => rfl
  have hr_ : ∀ g, cfg.raw g = (g == 58 || g == 69) := fun _ => rfl
  refine rF_fn rfl rfl Try.func25 rfl ?_
  unfold Jl.renew
  cases hbad : l.bad with
  | true =>
    rw [if_pos rfl]
    rw [hbad] at hl
    repeat' (first | simp (disch := first | omega | assumption | decide) only [go_sem, hm, hz, ht, hr_, hl, store_ptr, get_end_, get_old_, get_set_self_, get_set_ne_, len_set_, len_add_, bind_some_, map_some_, oneD_fold] | refine ifP_in (fun _ => ?_) (fun _ => ?_))
    exact ⟨_, ⟨pr, Sd, hL, rfl⟩, Step.refl _ _⟩
  | false =>
    rw [if_neg (by simp)]
    rw [hbad] at hl
    repeat' (first | simp (disch := first | omega | assumption | decide) only [go_sem, hm, hz, ht, hr_, hl, store_ptr, get_end_, get_old_, get_set_self_, get_set_ne_, len_set_, len_add_, bind_some_, map_some_, oneD_fold] | refine ifP_in (fun _ => ?_) (fun _ => ?_))
    refine rF_use (jall_w ps hpl hf hps) ?_
    rintro _ H1 ⟨rfl, hp1⟩
    have g1 : ∀ x, x < H.length → H1[x]? = H[x]? := fun x hx => by
      obtain ⟨G, rfl⟩ := hp1
      exact List.getElem?_append_left hx
    obtain ⟨hL1, hs1⟩ := hL.step (hL.disk.grew g1) (Step.grew (pre_len hp1) g1)
    have hl1 := hL1.hl
    rw [hbad] at hl1
    have hfit : ps.all (fun p => decide (p.length ≤ 60000)) = fits ps := rfl
    rw [hfit]
    by_cases hbig : fits ps = false
    · rw [if_pos hbig, if_pos hbig]
      repeat' (first | simp (disch := first | omega | assumption | decide) only [go_sem, hm, hz, ht, hr_, hl1, store_ptr, get_end_, get_old_, get_set_self_, get_set_ne_, len_set_, len_add_, bind_some_, map_some_, oneD_fold] | refine ifP_in (fun _ => ?_) (fun _ => ?_))
      exact ⟨_, ⟨pr, Sd, hL1, rfl⟩, hs1⟩
    · rw [if_neg hbig, if_neg hbig]
      repeat' (first | simp (disch := first | omega | assumption | decide) only [go_sem, hm, hz, ht, hr_, hl1, hfn, store_ptr, get_end_, get_old_, get_set_self_, get_set_ne_, len_set_, len_add_, bind_some_, map_some_, oneD_fold] | refine ifP_in (fun _ => ?_) (fun _ => ?_))
      refine rF_use (write_w hL1.disk (hmay.can (by omega)) (Jl.fresh n) (Jr.frames ps) (by omega) (by omega)) ?_
      rintro _ H2 ⟨rfl, S2, hd2, hs2⟩
      have hm2 := hmay.next (Dk.Keeps.write hmay.ok (Jl.fresh n) (Jr.frames ps))
      obtain ⟨hL2, hs2⟩ := hL1.step hd2 hs2
      have hl2 := hL2.hl
      rw [hbad] at hl2
      have hs12 := hs1.trans hs2
      generalize Dk.write s (Jl.fresh n) (Jr.frames ps) = w at *
      clear hs1 hs2 hL1 hl1
      by_cases h0 : w.2 = 0
      · have ht1 : Jl.then_ w Dk.sync = Dk.sync w.1 := by unfold Jl.then_; rw [if_pos h0]
        rw [ht1]
        repeat' (first | simp (disch := first | omega | assumption | decide) only [go_sem, hm, hz, ht, hr_, hl2, h0, store_ptr, get_end_, get_old_, get_set_self_, get_set_ne_, len_set_, len_add_, bind_some_, map_some_, oneD_fold] | refine ifP_in (fun _ => ?_) (fun _ => ?_))
        refine rF_use (sync_w hL2.disk (hm2.can (by omega))) ?_
        rintro _ H3 ⟨rfl, S3, hd3, hs3⟩
        have hm3 := hm2.next (Dk.Keeps.sync hm2.ok)
        obtain ⟨hL3, hs3⟩ := hL2.step hd3 hs3
        have hl3 := hL3.hl
        rw [hbad] at hl3
        have hs13 := hs12.trans hs3
        generalize Dk.sync w.1 = q at *
        by_cases h1 : q.2 = 0
        · rw [if_neg (show ¬ q.2 ≠ 0 from fun h => h h1)]
          repeat' (first | simp (disch := first | omega | assumption | decide) only [go_sem, hm, hz, ht, hr_, hl3, h1, hfn, store_ptr, get_end_, get_old_, get_set_self_, get_set_ne_, len_set_, len_add_, bind_some_, map_some_, oneD_fold] | refine ifP_in (fun _ => ?_) (fun _ => ?_))
          refine rF_use (rename_w hL3.disk (hm3.can (by omega)) (Jl.fresh n) n (by omega) (by omega)) ?_
          rintro _ H4 ⟨rfl, S4, hd4, hs4⟩
          have hm4 := hm3.next (Dk.Keeps.rename hm3.ok (Jl.fresh n) n)
          obtain ⟨hL4, hs4⟩ := hL3.step hd4 hs4
          have hl4 := hL4.hl
          rw [hbad] at hl4
          have hs14 := hs13.trans hs4
          generalize Dk.rename q.1 (Jl.fresh n) n = v at *
          by_cases h2 : v.2 = 0
          · have ht2 : Jl.then_ v Dk.sync = Dk.sync v.1 := by unfold Jl.then_; rw [if_pos h2]
            rw [ht2]
            repeat' (first | simp (disch := first | omega | assumption | decide) only [go_sem, hm, hz, ht, hr_, hl4, h2, store_ptr, get_end_, get_old_, get_set_self_, get_set_ne_, len_set_, len_add_, bind_some_, map_some_, oneD_fold] | refine ifP_in (fun _ => ?_) (fun _ => ?_))
            refine rF_use (sync_w hL4.disk (hm4.can (by omega))) ?_
            rintro _ H5 ⟨rfl, S5, hd5, hs5⟩
            obtain ⟨hL5, hs5⟩ := hL4.step hd5 hs5
            have hl5 := hL5.hl
            rw [hbad] at hl5
            have hs15 := hs14.trans hs5
            generalize Dk.sync v.1 = u at *
            by_cases h3 : u.2 = 0
            · rw [if_neg (show ¬ u.2 ≠ 0 from fun h => h h3)]
              repeat' (first | simp (disch := first | omega | assumption | decide) only [go_sem, hm, hz, ht, hr_, hl5, h3, store_ptr, get_end_, get_old_, get_set_self_, get_set_ne_, len_set_, len_add_, bind_some_, map_some_, oneD_fold] | refine ifP_in (fun _ => ?_) (fun _ => ?_))
              refine rF_use (jcopied_w ps (by omega) (fun p hp => by have := hps p hp; omega)) ?_
              rintro a' H6 ⟨hp6, hpre6⟩
              have g6 : ∀ x, x < H5.length → H6[x]? = H5[x]? := fun x hx => by
                obtain ⟨G, rfl⟩ := hpre6
                exact List.getElem?_append_left hx
              have hl6 : H6[jl]? = some [.ptr j 0, AV.str n, pr, .b false] := by rw [g6 jl (List.getElem?_eq_some_iff.1 hl5).1]; exact hl5
              have hst : ∀ o cs, storeC Try.prog 28 H6 jl o a' cs = storeS H6 jl o a' cs := fun o cs => storeC_one hp6.one.1 hp6.one.2
              repeat' (first | simp (disch := first | omega | assumption | decide) only [go_sem, hm, hz, ht, hr_, hl6, hst, store_ptr, get_end_, get_old_, get_set_self_, get_set_ne_, len_set_, len_add_, bind_some_, map_some_, oneD_fold] | refine ifP_in (fun _ => ?_) (fun _ => ?_))
              have hp60 : TokOf AV.bytes 1 0 H6 a' ps := by
                rcases hp6 with h | ⟨k, h1, h2⟩
                · exact .inl h
                · exact .inr ⟨k, Nat.zero_le _, h2⟩
              obtain ⟨hL7, hs7⟩ := hL5.recs_set (H' := H6) (pr' := a') (rs := ps) (pre_len hpre6) (fun x hx _ => g6 x hx) hp60 (by
                intro x hx
                rcases hp6 with ⟨rfl, _⟩ | ⟨k, h1, rfl, _⟩
                · simp [tokP_nil] at hx
                · simp only [tokP, List.mem_singleton] at hx; omega)
              rw [hbad] at hL7 hs7
              exact ⟨_, ⟨a', S5, hL7, rfl⟩, hs15.trans hs7⟩
            · rw [if_pos h3]
              repeat' (first | simp (disch := first | omega | assumption | decide) only [go_sem, hm, hz, ht, hr_, hl5, h3, store_ptr, get_end_, get_old_, get_set_self_, get_set_ne_, len_set_, len_add_, bind_some_, map_some_, oneD_fold] | refine ifP_in (fun _ => ?_) (fun _ => ?_))
              obtain ⟨hL6, hs6⟩ := hL5.put true
              exact ⟨_, ⟨pr, S5, hL6, rfl⟩, hs15.trans hs6⟩
          · have ht2 : Jl.then_ v Dk.sync = v := by unfold Jl.then_; rw [if_neg h2]
            rw [ht2, if_pos h2]
            repeat' (first | simp (disch := first | omega | assumption | decide) only [go_sem, hm, hz, ht, hr_, hl4, h2, store_ptr, get_end_, get_old_, get_set_self_, get_set_ne_, len_set_, len_add_, bind_some_, map_some_, oneD_fold] | refine ifP_in (fun _ => ?_) (fun _ => ?_))
            obtain ⟨hL6, hs6⟩ := hL4.put true
            exact ⟨_, ⟨pr, S4, hL6, rfl⟩, hs14.trans hs6⟩
        · rw [if_pos h1]
          repeat' (first | simp (disch := first | omega | assumption | decide) only [go_sem, hm, hz, ht, hr_, hl3, h1, hfn, store_ptr, get_end_, get_old_, get_set_self_, get_set_ne_, len_set_, len_add_, bind_some_, map_some_, oneD_fold] | refine ifP_in (fun _ => ?_) (fun _ => ?_))
          refine rF_use (delete_w hL3.disk (hm3.can (by omega)) (Jl.fresh n) (by omega)) ?_
          rintro _ Kd ⟨rfl, Sd', hdd, hsd⟩
          obtain ⟨hLd, hsd⟩ := hL3.step hdd hsd
          have hld := hLd.hl
          rw [hbad] at hld
          repeat' (first | simp (disch := first | omega | assumption | decide) only [go_sem, hm, hz, ht, hr_, hld, h1, store_ptr, get_end_, get_old_, get_set_self_, get_set_ne_, len_set_, len_add_, bind_some_, map_some_, oneD_fold] | refine ifP_in (fun _ => ?_) (fun _ => ?_))
          exact ⟨_, ⟨pr, Sd', hLd, rfl⟩, hs13.trans hsd⟩
      · have ht1 : Jl.then_ w Dk.sync = w := by unfold Jl.then_; rw [if_neg h0]
        rw [ht1, if_pos h0]
        repeat' (first | simp (disch := first | omega | assumption | decide) only [go_sem, hm, hz, ht, hr_, hl2, h0, hfn, store_ptr, get_end_, get_old_, get_set_self_, get_set_ne_, len_set_, len_add_, bind_some_, map_some_, oneD_fold] | refine ifP_in (fun _ => ?_) (fun _ => ?_))
        refine rF_use (delete_w hL2.disk (hm2.can (by omega)) (Jl.fresh n) (by omega)) ?_
        rintro _ Kd ⟨rfl, Sd', hdd, hsd⟩
        obtain ⟨hLd, hsd⟩ := hL2.step hdd hsd
        have hld := hLd.hl
        rw [hbad] at hld
        repeat' (first | simp (disch := first | omega | assumption | decide) only [go_sem, hm, hz, ht, hr_, hld, h0, store_ptr, get_end_, get_old_, get_set_self_, get_set_ne_, len_set_, len_add_, bind_some_, map_some_, oneD_fold] | refine ifP_in (fun _ => ?_) (fun _ => ?_))
        exact ⟨_, ⟨pr, Sd', hLd, rfl⟩, hs12.trans hsd⟩
end Jn
end Go.Proofs
/- Walks: a log is opened; its records. -/
set_option linter.unusedVariables false
set_option linter.unusedSimpArgs false
namespace Go.Proofs
open Go.Lv
namespace Jn
open Dk (Files Bs Ch Ev)
variable {H : Heap}

/-- What opening hands out. -/
def Opened (H H' : Heap) (j : Nat) (S : List Nat) (n : Bs) (o : Dk.Disk × Option Jl.Log × Int) (r : AV) : Prop :=
  (∀ l, o.2.1 = some l → ∃ jl S', H.length ≤ jl ∧ r = .tup [.ptr jl 0, .i o.2.2] ∧ LogAt H' jl j S' n l o.1 ∧ Step H S H' S') ∧
  (o.2.1 = none → ∃ S', r = .tup [.v (.pointer none), .i o.2.2] ∧ DiskAt H' j S' o.1 ∧ Step H S H' S')
theorem Opened.mk_none {H H' : Heap} {j : Nat} {S S' : List Nat} {n : Bs} {s : Dk.Disk} {e : Int} (h1 : DiskAt H' j S' s) (h2 : Step H S H' S') : Opened H H' j S n (s, none, e) (.tup [.v (.pointer none), .i e]) :=
  ⟨fun l h => by (simp only at h; cases h), fun _ => ⟨S', rfl, h1, h2⟩⟩
theorem LogAt.disk {jl j : Nat} {S : List Nat} {n : Bs} {l : Jl.Log} {s : Dk.Disk} (h : LogAt H jl j S n l s) : ∃ Sd, DiskAt H j Sd s ∧ ∀ x ∈ Sd, x ∈ S := by
  obtain ⟨pr, Sd, hL, rfl⟩ := h
  exact ⟨Sd, hL.disk, fun x hx => by simp [hx]⟩
theorem Step.sub {H H' : Heap} {S T T' : List Nat} (h : Step H S H' T) (hs : ∀ x ∈ T', x ∈ T) : Step H S H' T' := ⟨h.len, h.same, fun x hx => h.new x (hs x hx)⟩

theorem May.then_ {r : Dk.Disk × Int} {k : Int} (h : May r.1 k) (hk : 0 ≤ k) : May (Jl.then_ r Dk.sync).1 (k - 1) := by
  unfold Jl.then_
  split
  · exact h.next (Dk.Keeps.sync h.ok)
  · exact h.le (by omega)
theorem May.renew {s : Dk.Disk} {k : Int} (h : May s k) (hk : 6 ≤ k) (n : Bs) (l : Jl.Log) (ps : List Bs) : May (Jl.renew s n l ps).1 (k - 6) := by
  unfold Jl.renew
  split
  · exact h.le (by omega)
  · split
    · exact h.le (by omega)
    · have h1 := (h.next (Dk.Keeps.write h.ok (Jl.fresh n) (Jr.frames ps))).then_ (by omega)
      generalize Jl.then_ (Dk.write s (Jl.fresh n) (Jr.frames ps)) Dk.sync = q at *
      simp only
      split
      · exact (h1.next (Dk.Keeps.delete h1.ok _)).le (by omega)
      · have h2 := (h1.next (Dk.Keeps.rename h1.ok (Jl.fresh n) n)).then_ (by omega)
        generalize Jl.then_ (Dk.rename q.1 (Jl.fresh n) n) Dk.sync = v at *
        split
        · exact h2.le (by omega)
        · exact h2.le (by omega)
theorem May.open_ {s : Dk.Disk} {k : Int} (h : May s k) (hk : 8 ≤ k) (n : Bs) : May (Jl.open_ s n).1 (k - 8) := by
  unfold Jl.open_
  have h1 := h.next (Dk.Keeps.read h.ok n)
  generalize Dk.read s n = r at *
  simp only
  split
  · exact h1.le (by omega)
  · have hv : ∀ v : Dk.Disk × Jl.Log × Int, May v.1 (k - 7) → May (if v.2.2 ≠ 0 then (v.1, (none : Option Jl.Log), v.2.2) else if (Dk.delete v.1 (Jl.fresh n)).2 ≠ 0 ∧ (Dk.delete v.1 (Jl.fresh n)).2 ≠ 6 then ((Dk.delete v.1 (Jl.fresh n)).1, none, (Dk.delete v.1 (Jl.fresh n)).2) else ((Dk.delete v.1 (Jl.fresh n)).1, some v.2.1, 0)).1 (k - 8) := by
      intro v hv
      split
      · exact hv.le (by omega)
      · have h2 := hv.next (Dk.Keeps.delete hv.ok (Jl.fresh n))
        split
        · exact h2.le (by omega)
        · exact h2.le (by omega)
    refine hv _ ?_
    split
    · exact (May.renew h1 (by omega) _ _ _).le (by omega)
    · exact h1.le (by omega)
theorem jopen_w {j : Nat} {S : List Nat} {n : Bs} {s : Dk.Disk} (hd : DiskAt H j S s) (hmay : May s 8) (hn : n.length ≤ 100000) (hrd : (Dk.read s n).2.1.length < 1000000) :
    WF Try.prog cfg 21 [.ptr j 0, .str n] H (fun r H' => Opened H H' j S n (Jl.open_ s n) r) := by
  have hfl : (Jl.fresh n).length = n.length + 4 := by simp [Jl.fresh]
  have hfn : ∀ {P : Program} {xt : TypeId}, bin P .add xt (AV.str n) (AV.str [46, 110, 101, 119]) = some (AV.str (Jl.fresh n)) := by
    intro P xt
    have : (([46, 110, 101, 119] : List UInt8).length : Int) = 4 := rfl
    unfold Jl.fresh
    simp (disch := omega) only [go_sem]
  have hm : ∀ d, cfg.muF 21 d = (false) := fun _ => rfl
  have hz : ∀ d, cfg.fzF 21 d = (false) := fun _ => rfl
  have ht : ∀ d, cfg.tkF 21 d = (false) := fun _ => rfl
  have hr_ : ∀ g, cfg.raw g = (g == 58 || g == 69) := fun _ => rfl
  refine rF_fn rfl rfl Try.func21 rfl ?_
  repeat' (first | simp (disch := first | omega | assumption | decide) only [go_sem, hm, hz, ht, hr_, store_ptr, get_end_, get_old_, get_set_self_, get_set_ne_, len_set_, len_add_, bind_some_, map_some_, oneD_fold] | refine ifP_in (fun _ => ?_) (fun _ => ?_))
  refine rF_use (read_w hd (hmay.can (by omega)) n (by omega)) ?_
  rintro _ H1 ⟨rfl, S1, hd1, hs1⟩
  have hm1 := hmay.next (Dk.Keeps.read hmay.ok n)
  have e1 := @Jl.open_bad s n
  have e2 := @Jl.open_plain s n
  have e3 := @Jl.open_fail s n
  have e4 := @Jl.open_renew s n
  generalize Dk.read s n = r at *
  generalize Jl.open_ s n = o at *
  by_cases hbad : r.2.2 ≠ 0 ∧ r.2.2 ≠ 6
  · rw [e1 hbad]
    obtain ⟨q1, q2⟩ := hbad
    repeat' (first | simp (disch := first | omega | assumption | decide) only [go_sem, hm, hz, ht, hr_, q1, q2, store_ptr, get_end_, get_old_, get_set_self_, get_set_ne_, len_set_, len_add_, bind_some_, map_some_, oneD_fold] | refine ifP_in (fun _ => ?_) (fun _ => ?_))
    exact Opened.mk_none hd1 hs1
  · rcases (show r.2.2 = 0 ∨ r.2.2 = 6 by omega) with q1 | q1
    · repeat' (first | simp (disch := first | omega | assumption | decide) only [go_sem, hm, hz, ht, hr_, q1, store_ptr, get_end_, get_old_, get_set_self_, get_set_ne_, len_set_, len_add_, bind_some_, map_some_, oneD_fold] | refine ifP_in (fun _ => ?_) (fun _ => ?_))
      refine rF_use (Scan_w r.2.1 (by omega)) ?_
      rintro _ H2 ⟨a, rfl, ha, hp2⟩
      have g2 : ∀ x, x < H1.length → H2[x]? = H1[x]? := fun x hx => by
        obtain ⟨G, rfl⟩ := hp2
        exact List.getElem?_append_left hx
      have hl2 := pre_len hp2
      have hd2 := hd1.grew g2
      have hs2 := hs1.trans (Step.grew (S := S1) hl2 g2)
      obtain ⟨se1, se2, se3⟩ := Jr.scan_end r.2.1
      have hslen := Jr.scan_len r.2.1
      generalize Jr.scan r.2.1 = c at *
      have hfill : ∀ offs cells rest i, fillD offs cells ((i, a) :: rest) = partD1 offs cells i a rest := fun _ _ _ _ => fillD_part ha.one.1 ha.one.2
      have hod : ∀ (l : List AV) (x : List AV), oneD (a :: l) x = oneD l x := fun _ _ => oneD_cons ha.one.2
      have hL3 : LogR (H2 ++ [[.ptr j 0, AV.str n, a, .b false]]) H2.length j a S1 n ⟨c.1, false⟩ r.1 := by
        have g3 : ∀ x, x < H2.length → (H2 ++ [[.ptr j 0, AV.str n, a, .b false]])[x]? = H2[x]? := fun x hx => get_old_ hx
        have ha0 : TokOf AV.bytes 1 0 H2 a c.1 := by
          rcases ha with h | ⟨k, h1, h2⟩
          · exact .inl h
          · exact .inr ⟨k, Nat.zero_le _, h2⟩
        refine ⟨get_end_ _, tok_same ha0 fun x hx => g3 x (tok_lt ha0 x hx).1, hd2.grew g3, fun h => ?_, fun x hx hS => ?_⟩
        · have := hd2.lt _ h; omega
        · have h1 := hd1.lt _ hS
          rcases ha with ⟨rfl, _⟩ | ⟨k, k1, rfl, _⟩
          · simp [tokP_nil] at hx
          · simp only [tokP, List.mem_singleton] at hx; omega
      have hs3 : Step H S (H2 ++ [[.ptr j 0, AV.str n, a, .b false]]) (H2.length :: (tokP a ++ S1)) := by
        refine ⟨by have := hs2.len; simp; omega, fun i hi hS => ?_, fun x hx => ?_⟩
        · have := hs2.len
          rw [get_old_ (by omega)]; exact hs2.same i hi hS
        · have := hs2.len
          rcases List.mem_cons.1 hx with rfl | hx
          · exact .inr (by omega)
          · rcases List.mem_append.1 hx with hx | hx
            · right
              have := hs1.len
              rcases ha with ⟨rfl, _⟩ | ⟨k, k1, rfl, _⟩
              · simp [tokP_nil] at hx
              · simp only [tokP, List.mem_singleton] at hx; omega
            · exact hs2.new x hx
      have hl0 := hs2.len
      have hLA : LogAt (H2 ++ [[.ptr j 0, AV.str n, a, .b false]]) H2.length j (H2.length :: (tokP a ++ S1)) n ⟨c.1, false⟩ r.1 := ⟨a, S1, hL3, rfl⟩
      obtain ⟨jl, hjl⟩ : ∃ jl, jl = H2.length := ⟨_, rfl⟩
      rw [← hjl] at hLA hs3
      by_cases hend : c.2 < r.2.1.length
      · have e3 := e3 hbad hend
        have e4 := e4 hbad hend
        repeat' (first | simp (disch := first | omega | assumption | decide) only [go_sem, hm, hz, ht, hr_, hfill, hod, store_ptr, get_end_, get_old_, get_set_self_, get_set_ne_, len_set_, len_add_, bind_some_, map_some_, oneD_fold] | refine ifP_in (fun _ => ?_) (fun _ => ?_))
        rw [← hjl]
        generalize (H2 ++ [[.ptr j 0, AV.str n, a, .b false]]) = H3 at *
        generalize (jl :: (tokP a ++ S1)) = S3 at *
        rw [ha.plain]
        refine rF_use (jrenew_w hLA (hm1.le (by omega)) hn c.1 (by omega) (by omega) (fun p hp => by have := se3 p hp; omega)) ?_
        rintro _ H4 ⟨rfl, S4, hLA, hs4⟩
        have hs3 := hs3.trans hs4
        have hm5 := May.renew hm1 (by omega) n ⟨c.1, false⟩ c.1
        generalize Jl.renew r.1 n ⟨c.1, false⟩ c.1 = v at *
        by_cases hv : v.2.2 = 0
        · rw [e4 hv]
          unfold Jl.openTail
          repeat' (first | simp (disch := first | omega | assumption | decide) only [go_sem, hm, hz, ht, hr_, hv, hfn, store_ptr, get_end_, get_old_, get_set_self_, get_set_ne_, len_set_, len_add_, bind_some_, map_some_, oneD_fold] | refine ifP_in (fun _ => ?_) (fun _ => ?_))
          obtain ⟨pr, Sd, hLx, hSx⟩ := hLA
          have hsx := hs3
          rw [hSx] at hsx
          refine rF_use (delete_w hLx.disk (hm5.can (by omega)) (Jl.fresh n) (by omega)) ?_
          rintro _ K4 ⟨rfl, Sd', hdd, hsd⟩
          obtain ⟨hLd, hsd⟩ := hLx.step hdd hsd
          have hsall := hsx.trans hsd
          generalize Dk.delete v.1 (Jl.fresh n) = dl at *
          by_cases hb : dl.2 ≠ 0 ∧ dl.2 ≠ 6
          · rw [if_pos hb]
            obtain ⟨u1, u2⟩ := hb
            repeat' (first | simp (disch := first | omega | assumption | decide) only [go_sem, hm, hz, ht, hr_, u1, u2, store_ptr, get_end_, get_old_, get_set_self_, get_set_ne_, len_set_, len_add_, bind_some_, map_some_, oneD_fold] | refine ifP_in (fun _ => ?_) (fun _ => ?_))
            exact Opened.mk_none hLd.disk (hsall.sub (fun x hx => by simp [hx]))
          · rw [if_neg hb]
            rcases (show dl.2 = 0 ∨ dl.2 = 6 by omega) with u1 | u1
            · repeat' (first | simp (disch := first | omega | assumption | decide) only [go_sem, hm, hz, ht, hr_, u1, store_ptr, get_end_, get_old_, get_set_self_, get_set_ne_, len_set_, len_add_, bind_some_, map_some_, oneD_fold] | refine ifP_in (fun _ => ?_) (fun _ => ?_))
              exact ⟨fun l' h => by (injection h with h; subst h; exact ⟨jl, _, by omega, rfl, ⟨pr, Sd', hLd, rfl⟩, hsall⟩), fun h => by cases h⟩
            · have u2 : (6 : Int) ≠ 0 := by decide
              repeat' (first | simp (disch := first | omega | assumption | decide) only [go_sem, hm, hz, ht, hr_, u1, store_ptr, get_end_, get_old_, get_set_self_, get_set_ne_, len_set_, len_add_, bind_some_, map_some_, oneD_fold] | refine ifP_in (fun _ => ?_) (fun _ => ?_))
              exact ⟨fun l' h => by (injection h with h; subst h; exact ⟨jl, _, by omega, rfl, ⟨pr, Sd', hLd, rfl⟩, hsall⟩), fun h => by cases h⟩
        · rw [e3 hv]
          obtain ⟨Sd, hdv, hsub⟩ := hLA.disk
          repeat' (first | simp (disch := first | omega | assumption | decide) only [go_sem, hm, hz, ht, hr_, hv, store_ptr, get_end_, get_old_, get_set_self_, get_set_ne_, len_set_, len_add_, bind_some_, map_some_, oneD_fold] | refine ifP_in (fun _ => ?_) (fun _ => ?_))
          exact Opened.mk_none hdv (hs3.sub hsub)
      · rw [e2 hbad hend]
        unfold Jl.openTail
        repeat' (first | simp (disch := first | omega | assumption | decide) only [go_sem, hm, hz, ht, hr_, hfill, hod, hfn, store_ptr, get_end_, get_old_, get_set_self_, get_set_ne_, len_set_, len_add_, bind_some_, map_some_, oneD_fold] | refine ifP_in (fun _ => ?_) (fun _ => ?_))
        rw [← hjl]
        generalize (H2 ++ [[.ptr j 0, AV.str n, a, .b false]]) = H3 at *
        generalize (jl :: (tokP a ++ S1)) = S3 at *
        obtain ⟨pr, Sd, hLx, hSx⟩ := hLA
        have hsx := hs3
        rw [hSx] at hsx
        refine rF_use (delete_w hLx.disk (hm1.can (by omega)) (Jl.fresh n) (by omega)) ?_
        rintro _ K4 ⟨rfl, Sd', hdd, hsd⟩
        obtain ⟨hLd, hsd⟩ := hLx.step hdd hsd
        have hsall := hsx.trans hsd
        generalize Dk.delete r.1 (Jl.fresh n) = dl at *
        by_cases hb : dl.2 ≠ 0 ∧ dl.2 ≠ 6
        · rw [if_pos hb]
          obtain ⟨u1, u2⟩ := hb
          repeat' (first | simp (disch := first | omega | assumption | decide) only [go_sem, hm, hz, ht, hr_, u1, u2, store_ptr, get_end_, get_old_, get_set_self_, get_set_ne_, len_set_, len_add_, bind_some_, map_some_, oneD_fold] | refine ifP_in (fun _ => ?_) (fun _ => ?_))
          exact Opened.mk_none hLd.disk (hsall.sub (fun x hx => by simp [hx]))
        · rw [if_neg hb]
          rcases (show dl.2 = 0 ∨ dl.2 = 6 by omega) with u1 | u1
          · repeat' (first | simp (disch := first | omega | assumption | decide) only [go_sem, hm, hz, ht, hr_, u1, store_ptr, get_end_, get_old_, get_set_self_, get_set_ne_, len_set_, len_add_, bind_some_, map_some_, oneD_fold] | refine ifP_in (fun _ => ?_) (fun _ => ?_))
            exact ⟨fun l' h => by (injection h with h; subst h; exact ⟨jl, _, by omega, rfl, ⟨pr, Sd', hLd, rfl⟩, hsall⟩), fun h => by cases h⟩
          · have u2 : (6 : Int) ≠ 0 := by decide
            repeat' (first | simp (disch := first | omega | assumption | decide) only [go_sem, hm, hz, ht, hr_, u1, store_ptr, get_end_, get_old_, get_set_self_, get_set_ne_, len_set_, len_add_, bind_some_, map_some_, oneD_fold] | refine ifP_in (fun _ => ?_) (fun _ => ?_))
            exact ⟨fun l' h => by (injection h with h; subst h; exact ⟨jl, _, by omega, rfl, ⟨pr, Sd', hLd, rfl⟩, hsall⟩), fun h => by cases h⟩
    · have q2 : (6 : Int) ≠ 0 := by decide
      repeat' (first | simp (disch := first | omega | assumption | decide) only [go_sem, hm, hz, ht, hr_, q1, store_ptr, get_end_, get_old_, get_set_self_, get_set_ne_, len_set_, len_add_, bind_some_, map_some_, oneD_fold] | refine ifP_in (fun _ => ?_) (fun _ => ?_))
      refine rF_use (Scan_w r.2.1 (by omega)) ?_
      rintro _ H2 ⟨a, rfl, ha, hp2⟩
      have g2 : ∀ x, x < H1.length → H2[x]? = H1[x]? := fun x hx => by
        obtain ⟨G, rfl⟩ := hp2
        exact List.getElem?_append_left hx
      have hl2 := pre_len hp2
      have hd2 := hd1.grew g2
      have hs2 := hs1.trans (Step.grew (S := S1) hl2 g2)
      obtain ⟨se1, se2, se3⟩ := Jr.scan_end r.2.1
      have hslen := Jr.scan_len r.2.1
      generalize Jr.scan r.2.1 = c at *
      have hfill : ∀ offs cells rest i, fillD offs cells ((i, a) :: rest) = partD1 offs cells i a rest := fun _ _ _ _ => fillD_part ha.one.1 ha.one.2
      have hod : ∀ (l : List AV) (x : List AV), oneD (a :: l) x = oneD l x := fun _ _ => oneD_cons ha.one.2
      have hL3 : LogR (H2 ++ [[.ptr j 0, AV.str n, a, .b false]]) H2.length j a S1 n ⟨c.1, false⟩ r.1 := by
        have g3 : ∀ x, x < H2.length → (H2 ++ [[.ptr j 0, AV.str n, a, .b false]])[x]? = H2[x]? := fun x hx => get_old_ hx
        have ha0 : TokOf AV.bytes 1 0 H2 a c.1 := by
          rcases ha with h | ⟨k, h1, h2⟩
          · exact .inl h
          · exact .inr ⟨k, Nat.zero_le _, h2⟩
        refine ⟨get_end_ _, tok_same ha0 fun x hx => g3 x (tok_lt ha0 x hx).1, hd2.grew g3, fun h => ?_, fun x hx hS => ?_⟩
        · have := hd2.lt _ h; omega
        · have h1 := hd1.lt _ hS
          rcases ha with ⟨rfl, _⟩ | ⟨k, k1, rfl, _⟩
          · simp [tokP_nil] at hx
          · simp only [tokP, List.mem_singleton] at hx; omega
      have hs3 : Step H S (H2 ++ [[.ptr j 0, AV.str n, a, .b false]]) (H2.length :: (tokP a ++ S1)) := by
        refine ⟨by have := hs2.len; simp; omega, fun i hi hS => ?_, fun x hx => ?_⟩
        · have := hs2.len
          rw [get_old_ (by omega)]; exact hs2.same i hi hS
        · have := hs2.len
          rcases List.mem_cons.1 hx with rfl | hx
          · exact .inr (by omega)
          · rcases List.mem_append.1 hx with hx | hx
            · right
              have := hs1.len
              rcases ha with ⟨rfl, _⟩ | ⟨k, k1, rfl, _⟩
              · simp [tokP_nil] at hx
              · simp only [tokP, List.mem_singleton] at hx; omega
            · exact hs2.new x hx
      have hl0 := hs2.len
      have hLA : LogAt (H2 ++ [[.ptr j 0, AV.str n, a, .b false]]) H2.length j (H2.length :: (tokP a ++ S1)) n ⟨c.1, false⟩ r.1 := ⟨a, S1, hL3, rfl⟩
      obtain ⟨jl, hjl⟩ : ∃ jl, jl = H2.length := ⟨_, rfl⟩
      rw [← hjl] at hLA hs3
      by_cases hend : c.2 < r.2.1.length
      · have e3 := e3 hbad hend
        have e4 := e4 hbad hend
        repeat' (first | simp (disch := first | omega | assumption | decide) only [go_sem, hm, hz, ht, hr_, hfill, hod, store_ptr, get_end_, get_old_, get_set_self_, get_set_ne_, len_set_, len_add_, bind_some_, map_some_, oneD_fold] | refine ifP_in (fun _ => ?_) (fun _ => ?_))
        rw [← hjl]
        generalize (H2 ++ [[.ptr j 0, AV.str n, a, .b false]]) = H3 at *
        generalize (jl :: (tokP a ++ S1)) = S3 at *
        rw [ha.plain]
        refine rF_use (jrenew_w hLA (hm1.le (by omega)) hn c.1 (by omega) (by omega) (fun p hp => by have := se3 p hp; omega)) ?_
        rintro _ H4 ⟨rfl, S4, hLA, hs4⟩
        have hs3 := hs3.trans hs4
        have hm5 := May.renew hm1 (by omega) n ⟨c.1, false⟩ c.1
        generalize Jl.renew r.1 n ⟨c.1, false⟩ c.1 = v at *
        by_cases hv : v.2.2 = 0
        · rw [e4 hv]
          unfold Jl.openTail
          repeat' (first | simp (disch := first | omega | assumption | decide) only [go_sem, hm, hz, ht, hr_, hv, hfn, store_ptr, get_end_, get_old_, get_set_self_, get_set_ne_, len_set_, len_add_, bind_some_, map_some_, oneD_fold] | refine ifP_in (fun _ => ?_) (fun _ => ?_))
          obtain ⟨pr, Sd, hLx, hSx⟩ := hLA
          have hsx := hs3
          rw [hSx] at hsx
          refine rF_use (delete_w hLx.disk (hm5.can (by omega)) (Jl.fresh n) (by omega)) ?_
          rintro _ K4 ⟨rfl, Sd', hdd, hsd⟩
          obtain ⟨hLd, hsd⟩ := hLx.step hdd hsd
          have hsall := hsx.trans hsd
          generalize Dk.delete v.1 (Jl.fresh n) = dl at *
          by_cases hb : dl.2 ≠ 0 ∧ dl.2 ≠ 6
          · rw [if_pos hb]
            obtain ⟨u1, u2⟩ := hb
            repeat' (first | simp (disch := first | omega | assumption | decide) only [go_sem, hm, hz, ht, hr_, u1, u2, store_ptr, get_end_, get_old_, get_set_self_, get_set_ne_, len_set_, len_add_, bind_some_, map_some_, oneD_fold] | refine ifP_in (fun _ => ?_) (fun _ => ?_))
            exact Opened.mk_none hLd.disk (hsall.sub (fun x hx => by simp [hx]))
          · rw [if_neg hb]
            rcases (show dl.2 = 0 ∨ dl.2 = 6 by omega) with u1 | u1
            · repeat' (first | simp (disch := first | omega | assumption | decide) only [go_sem, hm, hz, ht, hr_, u1, store_ptr, get_end_, get_old_, get_set_self_, get_set_ne_, len_set_, len_add_, bind_some_, map_some_, oneD_fold] | refine ifP_in (fun _ => ?_) (fun _ => ?_))
              exact ⟨fun l' h => by (injection h with h; subst h; exact ⟨jl, _, by omega, rfl, ⟨pr, Sd', hLd, rfl⟩, hsall⟩), fun h => by cases h⟩
            · have u2 : (6 : Int) ≠ 0 := by decide
              repeat' (first | simp (disch := first | omega | assumption | decide) only [go_sem, hm, hz, ht, hr_, u1, store_ptr, get_end_, get_old_, get_set_self_, get_set_ne_, len_set_, len_add_, bind_some_, map_some_, oneD_fold] | refine ifP_in (fun _ => ?_) (fun _ => ?_))
              exact ⟨fun l' h => by (injection h with h; subst h; exact ⟨jl, _, by omega, rfl, ⟨pr, Sd', hLd, rfl⟩, hsall⟩), fun h => by cases h⟩
        · rw [e3 hv]
          obtain ⟨Sd, hdv, hsub⟩ := hLA.disk
          repeat' (first | simp (disch := first | omega | assumption | decide) only [go_sem, hm, hz, ht, hr_, hv, store_ptr, get_end_, get_old_, get_set_self_, get_set_ne_, len_set_, len_add_, bind_some_, map_some_, oneD_fold] | refine ifP_in (fun _ => ?_) (fun _ => ?_))
          exact Opened.mk_none hdv (hs3.sub hsub)
      · rw [e2 hbad hend]
        unfold Jl.openTail
        repeat' (first | simp (disch := first | omega | assumption | decide) only [go_sem, hm, hz, ht, hr_, hfill, hod, hfn, store_ptr, get_end_, get_old_, get_set_self_, get_set_ne_, len_set_, len_add_, bind_some_, map_some_, oneD_fold] | refine ifP_in (fun _ => ?_) (fun _ => ?_))
        rw [← hjl]
        generalize (H2 ++ [[.ptr j 0, AV.str n, a, .b false]]) = H3 at *
        generalize (jl :: (tokP a ++ S1)) = S3 at *
        obtain ⟨pr, Sd, hLx, hSx⟩ := hLA
        have hsx := hs3
        rw [hSx] at hsx
        refine rF_use (delete_w hLx.disk (hm1.can (by omega)) (Jl.fresh n) (by omega)) ?_
        rintro _ K4 ⟨rfl, Sd', hdd, hsd⟩
        obtain ⟨hLd, hsd⟩ := hLx.step hdd hsd
        have hsall := hsx.trans hsd
        generalize Dk.delete r.1 (Jl.fresh n) = dl at *
        by_cases hb : dl.2 ≠ 0 ∧ dl.2 ≠ 6
        · rw [if_pos hb]
          obtain ⟨u1, u2⟩ := hb
          repeat' (first | simp (disch := first | omega | assumption | decide) only [go_sem, hm, hz, ht, hr_, u1, u2, store_ptr, get_end_, get_old_, get_set_self_, get_set_ne_, len_set_, len_add_, bind_some_, map_some_, oneD_fold] | refine ifP_in (fun _ => ?_) (fun _ => ?_))
          exact Opened.mk_none hLd.disk (hsall.sub (fun x hx => by simp [hx]))
        · rw [if_neg hb]
          rcases (show dl.2 = 0 ∨ dl.2 = 6 by omega) with u1 | u1
          · repeat' (first | simp (disch := first | omega | assumption | decide) only [go_sem, hm, hz, ht, hr_, u1, store_ptr, get_end_, get_old_, get_set_self_, get_set_ne_, len_set_, len_add_, bind_some_, map_some_, oneD_fold] | refine ifP_in (fun _ => ?_) (fun _ => ?_))
            exact ⟨fun l' h => by (injection h with h; subst h; exact ⟨jl, _, by omega, rfl, ⟨pr, Sd', hLd, rfl⟩, hsall⟩), fun h => by cases h⟩
          · have u2 : (6 : Int) ≠ 0 := by decide
            repeat' (first | simp (disch := first | omega | assumption | decide) only [go_sem, hm, hz, ht, hr_, u1, store_ptr, get_end_, get_old_, get_set_self_, get_set_ne_, len_set_, len_add_, bind_some_, map_some_, oneD_fold] | refine ifP_in (fun _ => ?_) (fun _ => ?_))
            exact ⟨fun l' h => by (injection h with h; subst h; exact ⟨jl, _, by omega, rfl, ⟨pr, Sd', hLd, rfl⟩, hsall⟩), fun h => by cases h⟩
end Jn
end Go.Proofs
