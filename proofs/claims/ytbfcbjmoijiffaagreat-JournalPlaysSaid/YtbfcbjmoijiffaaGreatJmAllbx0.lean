/- Walks: the logs' sizes; both logs beside each other. -/
import Derived.Test.YtbfcbjmoijiffaaGreatJmAllax0
import Derived.Test.YtbfcbjmoijiffaaGreatJmD
import Derived.Test.YtbfcbjmoijiffaaGreatDkAllcx0
set_option linter.unusedVariables false
set_option linter.unusedSimpArgs false
namespace Go.Proofs
open Go.Lv
namespace Jn
open Dk (Files Bs Ch Ev)
open Dl (Kept)
variable {H : Heap}

theorem TokS.at_ {xs : List Bs} {a : AV} {tp : List Nat} (h : TokS AV.bytes 1 H a xs tp) {i : Nat} (hi : i < xs.length) : indexAddrD Tryz.prog (some (.slice 38)) (owA a) (.i i) = some (.ea (AV.bytes xs[i]) 0) := by
  rcases h with ⟨_, rfl, _⟩ | ⟨_, rfl, _⟩ | ⟨k, rfl, _⟩
  · simp at hi
  · simp at hi
  · have e := indexAddrD_map (P := Tryz.prog) (k := .i64) (f := AV.bytes) (xs := xs) (el := 38) (i := (i : Int)) (by omega) (by omega)
    show indexAddrD Tryz.prog (some (.slice 38)) (.sl (xs.map AV.bytes)) (.i i) = _
    rw [e, size_is (P := Tryz.prog) (t := 38), ix_at' hi]
    rfl
theorem jrecords_w {jl j : Nat} {S : List Nat} {n : Bs} {l : Jl.Log} {s : Dk.Disk} (h : LogAt H jl j S n l s) (hl : (Jr.frames l.recs).length ≤ 2147483648) :
    WF Tryz.prog cfg 17 [.ptr jl 0] H (fun r H' => TokOf AV.bytes 1 H.length H' r l.recs ∧ H <+: H') := by
  obtain ⟨pr, Sd, hL, rfl⟩ := h
  have hl1 := hL.hl
  have hf := Jm.fit l.recs
  have hs : ∀ p ∈ l.recs, p.length ≤ 2147483648 := by
    intro p hp
    obtain ⟨i, hi, rfl⟩ := List.getElem_of_mem hp
    have h1 := Jr.frames_snoc l.recs i hi
    have h2 := Jr.frames_split l.recs (i + 1)
    have h3 := congrArg List.length h1
    have h4 := congrArg List.length h2
    rw [List.length_append, Jr.frame_len] at h3
    rw [List.length_append] at h4
    omega
  have hm : ∀ d, cfg.muF 17 d = (false) := fun _ => rfl
  have hz : ∀ d, cfg.fzF 17 d = (false) := fun _ => rfl
  have ht : ∀ d, cfg.tkF 17 d = (false) := fun _ => rfl
  have hr_ : ∀ g, cfg.raw g = (g == 68) := fun _ => rfl
  refine rF_fn rfl rfl Tryz.func17 rfl ?_
  repeat' first | simp (disch := first | omega | assumption | decide) only [go_sem, hm, hz, ht, hr_, hl1, wdl, bind_some_, map_some_, oneD_fold] | refine ifP_in (fun _ => ?_) fun _ => ?_
  rw [hL.recs.plain]
  refine rF_use (jcopied_w l.recs (by omega) hs) ?_
  rintro a H1 ⟨h1, h2⟩
  repeat' first | simp (disch := first | omega | assumption | decide) only [go_sem, hm, hz, ht, hr_, wdl, bind_some_, map_some_, oneD_fold] | refine ifP_in (fun _ => ?_) fun _ => ?_
  exact ⟨h1, h2⟩
theorem jbad_w {jl j : Nat} {S : List Nat} {n : Bs} {l : Jl.Log} {s : Dk.Disk} (h : LogAt H jl j S n l s) : WF Tryz.prog cfg 20 [.ptr jl 0] H (fun r H' => r = .b l.bad ∧ H' = H) := by
  obtain ⟨pr, Sd, hL, rfl⟩ := h
  have hl1 := hL.hl
  have hm : ∀ d, cfg.muF 20 d = (false) := fun _ => rfl
  have hz : ∀ d, cfg.fzF 20 d = (false) := fun _ => rfl
  have ht : ∀ d, cfg.tkF 20 d = (false) := fun _ => rfl
  have hr_ : ∀ g, cfg.raw g = (g == 68) := fun _ => rfl
  refine rF_fn rfl rfl Tryz.func20 rfl ?_
  repeat' first | simp (disch := first | omega | assumption | decide) only [go_sem, hm, hz, ht, hr_, hl1, wdl, bind_some_, map_some_, oneD_fold] | refine ifP_in (fun _ => ?_) fun _ => ?_
theorem jsize_w {jl j : Nat} {S : List Nat} {n : Bs} {l : Jl.Log} {s : Dk.Disk} (h : LogAt H jl j S n l s) (hb : (Jr.frames l.recs).length ≤ 2147483648) : WF Tryz.prog cfg 18 [.ptr jl 0] H (fun r H' => r = .i (Jr.frames l.recs).length ∧ H' = H) := by
  obtain ⟨pr, Sd, hL, rfl⟩ := h
  have hl1 := hL.hl
  obtain ⟨tp, hts, _⟩ := TokS.of hL.recs
  have hln := hts.len (el := 38)
  have hf := Jm.fit l.recs
  have hm : ∀ d, cfg.muF 18 d = (false) := fun _ => rfl
  have hz : ∀ d, cfg.fzF 18 d = (false) := fun _ => rfl
  have ht : ∀ d, cfg.tkF 18 d = (false) := fun _ => rfl
  have hr_ : ∀ g, cfg.raw g = (g == 68) := fun _ => rfl
  refine rF_fn rfl rfl Tryz.func18 rfl ?_
  repeat' first | simp (disch := first | omega | assumption | decide) only [go_sem, hm, hz, ht, hr_, hl1, hln, wdl, bind_some_, map_some_, oneD_fold] | refine ifP_in (fun _ => ?_) fun _ => ?_
  refine rL_loop (σ := Nat) (fun i e K => K = H ∧ e 9 = pr ∧ e 10 = .i l.recs.length ∧ e 11 = .i i ∧ i ≤ l.recs.length ∧ e 3 = .i (Jr.frames (l.recs.take i)).length) (fun i => l.recs.length - i) 0 ?_ ?_
  · refine ⟨rfl, ?_, ?_, ?_, by omega, ?_⟩
    all_goals first | (simp (disch := first | assumption | omega) only [go_sem]; done) | (simp (disch := first | assumption | omega) only [go_sem]; rfl)
  · rintro i e K ⟨hK, g9, g10, g11, i1, g3⟩
    have hK := hK.symm
    subst hK
    by_cases hi : i < l.recs.length
    · have hat := hts.at_ hi
      have h1 := congrArg List.length (Jr.frames_snoc l.recs i hi)
      have h2 := congrArg List.length (Jr.frames_split l.recs (i + 1))
      rw [List.length_append, Jr.frame_len] at h1
      rw [List.length_append] at h2
      repeat' first | simp (disch := first | omega | assumption | decide) only [go_sem, hm, hz, ht, hr_, g3, g9, g10, g11, hat, cells_by, lenD_bytes, wdl, bind_some_, map_some_, oneD_fold] | refine ifP_in (fun _ => ?_) fun _ => ?_
      exact ⟨i + 1, ⟨rfl, by omega, by congr 2; omega⟩, by omega⟩
    · have : i = l.recs.length := by omega
      subst this
      rw [List.take_length] at g3
      repeat' first | simp (disch := first | omega | assumption | decide) only [go_sem, hm, hz, ht, hr_, g3, g9, g10, g11, wdl, bind_some_, map_some_, oneD_fold] | refine ifP_in (fun _ => ?_) fun _ => ?_
theorem rlsize_w {jl j : Nat} {S : List Nat} {n : Bs} {l : Jl.Log} {s : Dk.Disk} (h : RogAt H jl j S n l s) (hb : (Jr.frames l.recs).length ≤ 2147483648) : WF Tryz.prog cfg 19 [.ptr jl 0] H (fun r H' => r = .i (Jr.frames l.recs).length ∧ H' = H) := by
  obtain ⟨pr, tp, Sd, hL, rfl⟩ := h
  have hl1 := hL.hl
  have hts := hL.recs
  have hln := hts.len (el := 38)
  have hf := Jm.fit l.recs
  have hm : ∀ d, cfg.muF 19 d = (false) := fun _ => rfl
  have hz : ∀ d, cfg.fzF 19 d = (false) := fun _ => rfl
  have ht : ∀ d, cfg.tkF 19 d = (false) := fun _ => rfl
  have hr_ : ∀ g, cfg.raw g = (g == 68) := fun _ => rfl
  refine rF_fn rfl rfl Tryz.func19 rfl ?_
  repeat' first | simp (disch := first | omega | assumption | decide) only [go_sem, hm, hz, ht, hr_, hl1, hln, wdl, bind_some_, map_some_, oneD_fold] | refine ifP_in (fun _ => ?_) fun _ => ?_
  refine rL_loop (σ := Nat) (fun i e K => K = H ∧ e 0 = .ptr jl 0 ∧ e 4 = .i i ∧ i ≤ l.recs.length ∧ e 3 = .i (Jr.frames (l.recs.take i)).length) (fun i => l.recs.length - i) 0 ?_ ?_
  · refine ⟨rfl, ?_, ?_, by omega, ?_⟩
    all_goals first | (simp (disch := first | assumption | omega) only [go_sem]; done) | (simp (disch := first | assumption | omega) only [go_sem]; rfl)
  · rintro i e K ⟨hK, g0, g4, i1, g3⟩
    have hK := hK.symm
    subst hK
    by_cases hi : i < l.recs.length
    · have hat := hts.at_ hi
      have h1 := congrArg List.length (Jr.frames_snoc l.recs i hi)
      have h2 := congrArg List.length (Jr.frames_split l.recs (i + 1))
      rw [List.length_append, Jr.frame_len] at h1
      rw [List.length_append] at h2
      repeat' first | simp (disch := first | omega | assumption | decide) only [go_sem, hm, hz, ht, hr_, g0, g3, g4, hl1, hln, hat, cells_by, lenD_bytes, wdl, bind_some_, map_some_, oneD_fold] | refine ifP_in (fun _ => ?_) fun _ => ?_
      exact ⟨i + 1, ⟨rfl, by omega, by congr 2; omega⟩, by omega⟩
    · have : i = l.recs.length := by omega
      subst this
      rw [List.take_length] at g3
      repeat' first | simp (disch := first | omega | assumption | decide) only [go_sem, hm, hz, ht, hr_, g0, g3, g4, hl1, hln, wdl, bind_some_, map_some_, oneD_fold] | refine ifP_in (fun _ => ?_) fun _ => ?_

theorem LogAt.lt {jl j : Nat} {S : List Nat} {n : Bs} {l : Jl.Log} {s : Dk.Disk} (h : LogAt H jl j S n l s) : ∀ x ∈ S, x < H.length := by
  obtain ⟨pr, Sd, hL, rfl⟩ := h
  intro x hx
  rcases List.mem_cons.1 hx with rfl | hx
  · exact (List.getElem?_eq_some_iff.1 hL.hl).1
  · rcases List.mem_append.1 hx with hx | hx
    · exact (tok_lt hL.recs x hx).1
    · exact hL.disk.lt x hx
theorem LogAt.same {H' : Heap} {jl j : Nat} {S : List Nat} {n : Bs} {l : Jl.Log} {s : Dk.Disk} (h : LogAt H jl j S n l s) (he : ∀ x ∈ S, H'[x]? = H[x]?) : LogAt H' jl j S n l s := by
  obtain ⟨pr, Sd, hL, rfl⟩ := h
  exact ⟨pr, Sd, ⟨by rw [he jl (by simp)]; exact hL.hl, tok_same hL.recs fun x hx => he x (by simp [hx]), hL.disk.same fun x hx => he x (by simp [hx]), hL.out, hL.tout⟩, rfl⟩
theorem RogAt.lt {jl j : Nat} {S : List Nat} {n : Bs} {l : Jl.Log} {s : Dk.Disk} (h : RogAt H jl j S n l s) : ∀ x ∈ S, x < H.length := by
  obtain ⟨pr, tp, Sd, hL, rfl⟩ := h
  intro x hx
  rcases List.mem_cons.1 hx with rfl | hx
  · exact (List.getElem?_eq_some_iff.1 hL.hl).1
  · rcases List.mem_append.1 hx with hx | hx
    · exact (hL.recs.lt x hx).1
    · exact hL.disk.lt x hx
theorem RogAt.same {H' : Heap} {jl j : Nat} {S : List Nat} {n : Bs} {l : Jl.Log} {s : Dk.Disk} (h : RogAt H jl j S n l s) (he : ∀ x ∈ S, H'[x]? = H[x]?) : RogAt H' jl j S n l s := by
  obtain ⟨pr, tp, Sd, hL, rfl⟩ := h
  exact ⟨pr, tp, Sd, ⟨by rw [he jl (by simp)]; exact hL.hl, hL.recs.same fun x hx => he x (by simp [hx]), hL.disk.same fun x hx => he x (by simp [hx]), hL.out, hL.tout⟩, rfl⟩
/-- One side goes on, the other stands. -/
theorem Step.beside {H H1 : Heap} {S S1 T : List Nat} (hs : Step H S H1 S1) (hT : ∀ x ∈ T, x < H.length) (ap : ∀ x ∈ S, x ∉ T) : (∀ x ∈ T, H1[x]? = H[x]?) ∧ ∀ x ∈ S1, x ∉ T :=
  ⟨fun x hx => hs.same x (hT x hx) (fun hm => ap x hm hx), fun x hx hxT => by
    rcases hs.new x hx with h | h
    · exact ap x h hxT
    · have := hT x hxT; omega⟩
/-- Both logs. -/
structure Logs (H : Heap) (j k jl kl : Nat) (S T : List Nat) (n : Bs) (l : Jl.Log) (s r : Dk.Disk) : Prop where
  a : LogAt H jl j S n l s
  b : RogAt H kl k T n l r
  ap : ∀ x ∈ S, x ∉ T
theorem Logs.pair {j k jl kl : Nat} {S T : List Nat} {n : Bs} {l : Jl.Log} {s r : Dk.Disk} (h : Logs H j k jl kl S T n l s r) : ∃ Sd Td, Pair H j k Sd Td s r ∧ (∀ x ∈ Sd, x ∈ S) ∧ ∀ x ∈ Td, x ∈ T := by
  obtain ⟨Sd, hd, h1⟩ := h.a.disk
  obtain ⟨Td, hr, h2⟩ := h.b.disk
  exact ⟨Sd, Td, ⟨hd, hr, fun x hx hxT => h.ap x (h1 x hx) (h2 x hxT)⟩, h1, h2⟩
theorem Logs.pre {H' : Heap} {j k jl kl : Nat} {S T : List Nat} {n : Bs} {l : Jl.Log} {s r : Dk.Disk} (h : Logs H j k jl kl S T n l s r) (hp : H <+: H') : Logs H' j k jl kl S T n l s r :=
  ⟨h.a.same fun x hx => pre_same hp (h.a.lt x hx), h.b.same fun x hx => pre_same hp (h.b.lt x hx), h.ap⟩
/-- The disks went on beneath the logs. -/
theorem Logs.below {j k jl kl : Nat} {S T : List Nat} {n : Bs} {l : Jl.Log} {s r : Dk.Disk} (h : Logs H j k jl kl S T n l s r) : ∃ Sd Td, Pair H j k Sd Td s r ∧ ∀ (H' : Heap) (S' T' : List Nat) (s' r' : Dk.Disk), Pair H' j k S' T' s' r' → Step H (Sd ++ Td) H' (S' ++ T') → ∃ S2 T2, Logs H' j k jl kl S2 T2 n l s' r' := by
  obtain ⟨⟨pa, Sd, hA, rfl⟩, ⟨pb, tp, Td, hB, rfl⟩, hap⟩ := h
  have hAl := hA.disk.lt
  have hBl := hB.disk.lt
  refine ⟨Sd, Td, ⟨hA.disk, hB.disk, fun x hx hxT => hap x (by simp [hx]) (by simp [hxT])⟩, ?_⟩
  intro H' S' T' s' r' hp hs
  have aj : jl < H.length := (List.getElem?_eq_some_iff.1 hA.hl).1
  have bj : kl < H.length := (List.getElem?_eq_some_iff.1 hB.hl).1
  have sa : ∀ x, x < H.length → x ∈ jl :: (tokP pa ++ Sd) → x ∉ Sd → x ∉ Sd ++ Td := fun x _ h1 h2 h3 => by
    rcases List.mem_append.1 h3 with h | h
    · exact h2 h
    · exact hap x h1 (by simp [h])
  have sb : ∀ x, x < H.length → x ∈ kl :: (tp ++ Td) → x ∉ Td → x ∉ Sd ++ Td := fun x _ h1 h2 h3 => by
    rcases List.mem_append.1 h3 with h | h
    · exact hap x (by simp [h]) h1
    · exact h2 h
  have ta : ∀ x ∈ tokP pa, H'[x]? = H[x]? ∧ x ∉ S' ++ T' := fun x hx => by
    have h1 := (tok_lt hA.recs x hx).1
    exact hs.at_ h1 (sa x h1 (by simp [hx]) (hA.tout x hx))
  have tb : ∀ x ∈ tp, H'[x]? = H[x]? ∧ x ∉ S' ++ T' := fun x hx => by
    have h1 := (hB.recs.lt x hx).1
    exact hs.at_ h1 (sb x h1 (by simp [hx]) (hB.tout x hx))
  have ja := hs.at_ aj (sa jl aj (by simp) hA.out)
  have jb := hs.at_ bj (sb kl bj (by simp) hB.out)
  refine ⟨_, _, ⟨pa, S', ⟨by rw [ja.1]; exact hA.hl, tok_same hA.recs fun x hx => (ta x hx).1, hp.hd, fun h => ja.2 (by simp [h]), fun x hx h => (ta x hx).2 (by simp [h])⟩, rfl⟩,
    ⟨pb, tp, T', ⟨by rw [jb.1]; exact hB.hl, hB.recs.same fun x hx => (tb x hx).1, hp.hr, fun h => jb.2 (by simp [h]), fun x hx h => (tb x hx).2 (by simp [h])⟩, rfl⟩, ?_⟩
  intro x hx hxT
  rcases List.mem_cons.1 hx with e1 | hx
  · rcases List.mem_cons.1 hxT with e2 | hxT
    · exact hap x (by simp [e1]) (by simp [e2])
    · rcases List.mem_append.1 hxT with hxT | hxT
      · exact hap x (by simp [e1]) (by simp [hxT])
      · exact ja.2 (by rw [← e1]; simp [hxT])
  · rcases List.mem_append.1 hx with hx | hx
    · rcases List.mem_cons.1 hxT with e2 | hxT
      · exact hap x (by simp [hx]) (by simp [e2])
      · rcases List.mem_append.1 hxT with hxT | hxT
        · exact hap x (by simp [hx]) (by simp [hxT])
        · exact (ta x hx).2 (by simp [hxT])
    · rcases List.mem_cons.1 hxT with e2 | hxT
      · exact jb.2 (by rw [← e2]; simp [hx])
      · rcases List.mem_append.1 hxT with hxT | hxT
        · exact (tb x hxT).2 (by simp [hx])
        · exact hp.ap x hx hxT
end Jn
end Go.Proofs
/- Walks: the law JournalPlays. -/
set_option linter.unusedVariables false
set_option linter.unusedSimpArgs false
namespace Go.Proofs
open Go.Lv
namespace Jn
open Dk (Files Bs Ch Ev)
open Dl (DOp Small Kept doesD doesR)
variable {H : Heap}

/-- Both disks, and both logs or none. -/
def BothAt (H : Heap) (j k : Nat) (n : Bs) (a b : AV) (m : Nat) (s r : Dk.Disk) : Prop :=
  (a = .v (.pointer none) ∧ b = .v (.pointer none) ∧ ∃ S T, Pair H j k S T s r) ∨
  ∃ jl kl l S T, a = .ptr jl 0 ∧ b = .ptr kl 0 ∧ Logs H j k jl kl S T n l s r ∧ (Jr.frames l.recs).length ≤ m
theorem may_of {c : Int} {s r : Dk.Disk} (h : Kept c s r) (hc : c ≤ 980) : May s 10 := ⟨h.live.two.ok, by have := h.calls; omega, by have := h.plan; omega⟩
/-- Only the program's log is opened anew. -/
def HalfAt (H : Heap) (j k : Nat) (n : Bs) (T : List Nat) (a : AV) (o : Option Jl.Log) (s r : Dk.Disk) : Prop :=
  RefAt H k T r ∧ ((a = .v (.pointer none) ∧ o = none ∧ ∃ S, DiskAt H j S s ∧ ∀ x ∈ S, x ∉ T) ∨ ∃ jl l S, a = .ptr jl 0 ∧ o = some l ∧ LogAt H jl j S n l s ∧ ∀ x ∈ S, x ∉ T)
theorem Opened.half {H1 : Heap} {j k : Nat} {S T : List Nat} {n : Bs} {o : Dk.Disk × Option Jl.Log × Int} {v : AV} {s r : Dk.Disk} (h : Opened H H1 j S n o v) (hp : Pair H j k S T s r) : ∃ a, v = .tup [a, .i o.2.2] ∧ HalfAt H1 j k n T a o.2.1 o.1 r := by
  cases ho : o.2.1 with
  | none =>
    obtain ⟨S1, rfl, hd1, hs1⟩ := h.2 ho
    obtain ⟨q1, q2⟩ := hs1.beside hp.hr.lt hp.ap
    exact ⟨_, rfl, hp.hr.same q1, .inl ⟨rfl, rfl, S1, hd1, q2⟩⟩
  | some l =>
    obtain ⟨jl, S1, _, rfl, hA, hs1⟩ := h.1 l ho
    obtain ⟨q1, q2⟩ := hs1.beside hp.hr.lt hp.ap
    exact ⟨_, rfl, hp.hr.same q1, .inr ⟨jl, l, S1, rfl, rfl, hA, q2⟩⟩
theorem Ropened.both {H1 : Heap} {j k m : Nat} {T : List Nat} {n : Bs} {o o' : Dk.Disk × Option Jl.Log × Int} {a v : AV} {r : Dk.Disk} (h : Ropened H H1 k T n o' v) (hh : HalfAt H j k n T a o.2.1 o.1 r) (he : o'.2 = o.2) (hm : ∀ l, o.2.1 = some l → (Jr.frames l.recs).length ≤ m) : ∃ b, v = .tup [b, .i o.2.2] ∧ BothAt H1 j k n a b m o.1 o'.1 := by
  rw [← he] at hh hm ⊢
  obtain ⟨_, ⟨rfl, ho, S, hd, hap⟩ | ⟨jl, l, S, rfl, ho, hA, hap⟩⟩ := hh
  · obtain ⟨T1, rfl, hr1, hs1⟩ := h.2 ho
    obtain ⟨q1, q2⟩ := hs1.beside hd.lt (fun x hx hxS => hap x hxS hx)
    exact ⟨_, rfl, .inl ⟨rfl, rfl, S, T1, hd.same q1, hr1, fun x hx hxT => q2 x hxT hx⟩⟩
  · obtain ⟨kl, T1, _, rfl, hB, hs1⟩ := h.1 l ho
    obtain ⟨q1, q2⟩ := hs1.beside hA.lt (fun x hx hxS => hap x hxS hx)
    exact ⟨_, rfl, .inr ⟨jl, kl, l, S, T1, rfl, rfl, ⟨hA.same q1, hB, fun x hx hxT => q2 x hxT hx⟩, hm l ho⟩⟩
theorem BothAt.pair {j k m : Nat} {n : Bs} {a b : AV} {s r : Dk.Disk} (h : BothAt H j k n a b m s r) : ∃ S T, Pair H j k S T s r := by
  rcases h with ⟨_, _, S, T, h⟩ | ⟨jl, kl, l, S, T, _, _, h, _⟩
  · exact ⟨S, T, h⟩
  · obtain ⟨Sd, Td, h, _⟩ := h.pair
    exact ⟨Sd, Td, h⟩
theorem BothAt.nil {j k m : Nat} {n : Bs} {a b : AV} {s r : Dk.Disk} (h : BothAt H j k n a b m s r) : ∃ q : Bool, (∀ (P : Program) (xt el : TypeId) [UndIs P xt (.pointer el)], bin P .eql xt a (.v (.pointer none)) = some (.b q)) ∧ ∀ (P : Program) (xt el : TypeId) [UndIs P xt (.pointer el)], bin P .eql xt b (.v (.pointer none)) = some (.b q) := by
  rcases h with ⟨rfl, rfl, _⟩ | ⟨jl, kl, l, S, T, rfl, rfl, _⟩
  · exact ⟨true, fun P xt el h => (by simp only [bin, h.h]), fun P xt el h => (by simp only [bin, h.h])⟩
  · exact ⟨false, fun P xt el h => (by simp only [bin, h.h]), fun P xt el h => (by simp only [bin, h.h])⟩
theorem frames_total (l : List Bs) : (Jr.frames l).length = total l + 6 * l.length := by
  induction l with
  | nil => rfl
  | cons p l ih => rw [Jr.frames_cons, List.length_append, Jr.frame_len, ih]; simp [total]; omega
theorem mem_total {l : List Bs} {p : Bs} (h : p ∈ l) : p.length ≤ total l := by
  induction l with
  | nil => simp at h
  | cons q l ih =>
    have e : total (q :: l) = q.length + total l := by simp [total]
    rcases List.mem_cons.1 h with rfl | h
    · omega
    · have := ih h; omega
theorem bnd {x i : Nat} (h : x ≤ 1073741824 + 71000 * i) (hi : i ≤ 61) : x ≤ 2147483648 := by omega
theorem bnd_a {x y z i : Nat} (h : x ≤ 1073741824 + 71000 * i) (h2 : y ≤ x + z) (hz : z ≤ 71000) : y ≤ 1073741824 + 71000 * (i + 1) := by omega
set_option maxHeartbeats 4000000 in
theorem jplays_w (room : Int) (name : Bs) (l : List JOp) (hl : l.length ≤ 140737488355328) (hbig : ∀ o ∈ l, BigJ o) (hnm : name.length ≤ 140737488355328) : WF Tryz.prog cfg 3 [.i room, .str name, .sl (l.map opJ)] H (fun v H' => v = .b true) := by
  have hm : ∀ d, cfg.muF 3 d = (false) := fun _ => rfl
  have hz : ∀ d, cfg.fzF 3 d = (false) := fun _ => rfl
  have ht : ∀ d, cfg.tkF 3 d = (false) := fun _ => rfl
  have hr_ : ∀ g, cfg.raw g = (g == 68) := fun _ => rfl
  refine rF_fn rfl rfl Tryz.func3 rfl ?_
  repeat' first | simp (disch := first | omega | assumption | decide) only [go_sem, hm, hz, ht, hr_, wdl, bind_some_, map_some_, oneD_fold] | refine ifP_in (fun _ => ?_) fun _ => ?_
  refine rF_use first23_w ?_
  rintro _ H1 ⟨rfl, rfl⟩
  repeat' first | simp (disch := first | omega | assumption | decide) only [go_sem, hm, hz, ht, hr_, wdl, bind_some_, map_some_, oneD_fold] | refine ifP_in (fun _ => ?_) fun _ => ?_
  refine rF_use (jfew_w l hl hbig) ?_
  rintro _ H2 ⟨⟨t, rfl, ht1⟩, rfl⟩
  cases t with
  | false =>
    repeat' first | simp (disch := first | omega | assumption | decide) only [go_sem, hm, hz, ht, hr_, wdl, bind_some_, map_some_, oneD_fold] | refine ifP_in (fun _ => ?_) fun _ => ?_
    refine rF_use first23_w ?_
    rintro _ H3 ⟨rfl, rfl⟩
    repeat' first | simp (disch := first | omega | assumption | decide) only [go_sem, hm, hz, ht, hr_, wdl, bind_some_, map_some_, oneD_fold] | refine ifP_in (fun _ => ?_) fun _ => ?_
  | true =>
    obtain ⟨hlen, hsm⟩ := ht1 rfl
    by_cases hn4 : 400 < name.length
    · repeat' first | simp (disch := first | omega | assumption | decide) only [go_sem, hm, hz, ht, hr_, wdl, bind_some_, map_some_, oneD_fold] | refine ifP_in (fun _ => ?_) fun _ => ?_
      refine rF_use first23_w ?_
      rintro _ H3 ⟨rfl, rfl⟩
      repeat' first | simp (disch := first | omega | assumption | decide) only [go_sem, hm, hz, ht, hr_, wdl, bind_some_, map_some_, oneD_fold] | refine ifP_in (fun _ => ?_) fun _ => ?_
    · repeat' first | simp (disch := first | omega | assumption | decide) only [go_sem, hm, hz, ht, hr_, wdl, bind_some_, map_some_, oneD_fold] | refine ifP_in (fun _ => ?_) fun _ => ?_
      by_cases hg : 0 ≤ room ∧ room ≤ 1073741824
      · refine rF_use (new_w room hg) ?_
        rintro _ H3 ⟨rfl, ⟨S0, hd0, hS0⟩, hp1⟩
        repeat' first | simp (disch := first | omega | assumption | decide) only [go_sem, hm, hz, ht, hr_, wdl, bind_some_, map_some_, oneD_fold] | refine ifP_in (fun _ => ?_) fun _ => ?_
        refine rF_use (rnew_w room hg) ?_
        rintro _ H4 ⟨rfl, hr0, hp2⟩
        have hpair : Pair H4 (H2.length + 2) H3.length S0 [H3.length] (newD room) (newD room) := ⟨hd0.grew fun x hx => pre_same hp2 hx, hr0, fun x hx hx2 => by
          have := hd0.lt x hx
          obtain rfl := List.mem_singleton.1 hx2
          omega⟩
        have hk0 : Kept 0 (newD room) (newD room) := Dl.Kept.new room hg
        generalize newD room = s0 at *
        obtain ⟨j, hj⟩ : ∃ j, j = H2.length + 2 := ⟨_, rfl⟩
        obtain ⟨k, hk⟩ : ∃ k, k = H3.length := ⟨_, rfl⟩
        rw [← hj, ← hk] at hpair
        rw [← hj, ← hk]
        repeat' first | simp (disch := first | omega | assumption | decide) only [go_sem, hm, hz, ht, hr_, wdl, bind_some_, map_some_, oneD_fold] | refine ifP_in (fun _ => ?_) fun _ => ?_
        refine rF_use (jopen_w hpair.hd ((may_of hk0 (by omega)).le (by omega)) (by omega) (Jm.read_len hk0.live.two.ok name)) ?_
        intro v1 K1 hop1
        obtain ⟨a, rfl, hh⟩ := hop1.half hpair
        repeat' first | simp (disch := first | omega | assumption | decide) only [go_sem, hm, hz, ht, hr_, wdl, bind_some_, map_some_, oneD_fold] | refine ifP_in (fun _ => ?_) fun _ => ?_
        refine rF_use (rlopen_w hh.1 hk0 (by omega) (by omega)) ?_
        intro v2 K2 hop2
        have hoo := Jm.open_ok hk0 name
        have hrec := @Jm.open_recs s0 name
        have hrl := Jm.read_len hk0.live.two.ok name
        obtain ⟨b, rfl, hb⟩ := hop2.both hh hoo.2 (m := 1073741824) (fun l h => by have := hrec h; omega)
        have hk1 := hoo.1
        generalize Jl.open_ s0 name = oa at *
        generalize Jm.open_ s0 name = ob at *
        clear hop1 hop2 hh
        obtain ⟨q, hq1, hq2⟩ := hb.nil
        repeat' first | simp (disch := first | omega | assumption | decide) only [go_sem, hm, hz, ht, hr_, hq1, hq2, bne_self_eq_false, wdl, bind_some_, map_some_, oneD_fold] | refine ifP_in (fun _ => ?_) fun _ => ?_
        clear hq1 hq2
        refine rL_loop (σ := Nat) (fun i e K => e 1 = .str name ∧ e 2 = .sl (l.map opJ) ∧ e 7 = .ptr j 0 ∧ e 9 = .ptr k 0 ∧ e 15 = .i i ∧ i ≤ l.length ∧ ∃ s r, Kept (8 + 8 * i) s r ∧ BothAt K j k name (e 11) (e 13) (1073741824 + 71000 * i) s r) (fun i => l.length - i) 0 ?_ ?_
        · refine ⟨?_, ?_, ?_, ?_, ?_, by omega, oa.1, ob.1, hk1.le (by omega), ?_⟩
          all_goals first | (simp (disch := first | assumption | omega) only [go_sem]; done) | (simp (disch := first | assumption | omega) only [go_sem]; rfl) | (simp (disch := first | assumption | omega) only [go_sem]; exact hb)
        · clear hb hk1 hoo hrec hrl hpair hk0
          rintro i e K ⟨g1, g2, g7, g9, g15, i1, s, r, hk, hb⟩
          by_cases hil : i < l.length
          · have hix := ix_at' hil
            have ho := hsm _ (List.getElem_mem hil)
            generalize l[i] = o at *
            obtain ⟨o1, o2, o3, o4⟩ := ho
            by_cases hk2 : o.kind = 2
            · obtain ⟨S, T, hp⟩ := hb.pair
              repeat' first | simp (disch := first | omega | assumption | decide) only [go_sem, hm, hz, ht, hr_, g1, g2, g7, g9, g15, hix, cells_opJ, hk2, wdl, bind_some_, map_some_, oneD_fold] | refine ifP_in (fun _ => ?_) fun _ => ?_
              refine rF_use (jopen_w hp.hd ((may_of hk (by omega)).le (by omega)) (by omega) (Jm.read_len hk.live.two.ok name)) ?_
              intro v1 K1 hop1
              obtain ⟨a', rfl, hh⟩ := hop1.half hp
              repeat' first | simp (disch := first | omega | assumption | decide) only [go_sem, hm, hz, ht, hr_, g1, g2, g7, g9, g15, wdl, bind_some_, map_some_, oneD_fold] | refine ifP_in (fun _ => ?_) fun _ => ?_
              refine rF_use (rlopen_w hh.1 hk (by omega) (by omega)) ?_
              intro v2 K2 hop2
              have hoo := Jm.open_ok hk name
              have hrec := @Jm.open_recs s name
              have hrl := Jm.read_len hk.live.two.ok name
              obtain ⟨b', rfl, hbN⟩ := hop2.both hh hoo.2 (m := 1073741824 + 71000 * (i + 1)) (fun l h => by have := hrec h; omega)
              have hkN := hoo.1
              generalize Jl.open_ s name = oa at *
              generalize Jm.open_ r name = ob at *
              clear hop1 hop2 hh
              obtain ⟨q, hq1, hq2⟩ := hbN.nil
              repeat' first | simp (disch := first | omega | assumption | decide) only [go_sem, hm, hz, ht, hr_, g1, g2, g7, g9, g15, hq1, hq2, beq_self_eq_true, wdl, bind_some_, map_some_, oneD_fold] | refine ifP_in (fun _ => ?_) fun _ => ?_
              rcases hbN with ⟨rfl, rfl, S', T', hpN⟩ | ⟨jl', kl', lg', S', T', rfl, rfl, hLN, hbd'⟩
              · have g11 : True := trivial
                have g13 : True := trivial
                refine rF_use (same_w hpN hkN (by omega)) ?_
                rintro _ Ks ⟨rfl, rfl⟩
                repeat' first | simp (disch := first | omega | assumption | decide) only [go_sem, hm, hz, ht, hr_, g1, g2, g7, g9, g15, g11, g13, wdl, bind_some_, map_some_, oneD_fold] | refine ifP_in (fun _ => ?_) fun _ => ?_
                exact ⟨i + 1, ⟨rfl, by omega, _, _, hkN.le (by omega), .inl ⟨rfl, rfl, _, _, hpN⟩⟩, by omega⟩
              · have g11 : True := trivial
                have g13 : True := trivial
                obtain ⟨Sd, Td, hpN, _, _⟩ := hLN.pair
                refine rF_use (same_w hpN hkN (by omega)) ?_
                rintro _ Ks ⟨rfl, rfl⟩
                have hbb := bnd hbd' (by omega)
                have hft := Nat.le_trans (Jm.fit lg'.recs) hbb
                repeat' first | simp (disch := first | omega | assumption | decide) only [go_sem, hm, hz, ht, hr_, g1, g2, g7, g9, g15, g11, g13, wdl, bind_some_, map_some_, oneD_fold] | refine ifP_in (fun _ => ?_) fun _ => ?_
                refine rF_use (jrecords_w hLN.a hbb) ?_
                rintro ra Kr ⟨hra, hpr⟩
                have hLr := hLN.pre hpr
                obtain ⟨pb, tp, Td2, hRB, hTe⟩ := hLN.b
                have hlb := hRB.hl
                have hlb2 := pre_get hpr hlb
                have hbp := hRB.recs.plain
                have hap := hra.plain
                repeat' first | simp (disch := first | omega | assumption | decide) only [go_sem, hm, hz, ht, hr_, g1, g2, g7, g9, g15, g11, g13, hlb, hlb2, hap, hbp, wdl, bind_some_, map_some_, oneD_fold] | refine ifP_in (fun _ => ?_) fun _ => ?_
                refine rF_use (rLists_w lg'.recs lg'.recs (by omega) rfl rfl) ?_
                rintro _ Kx ⟨rfl, rfl⟩
                rw [decide_eq_true (Eq.refl lg'.recs)]
                repeat' first | simp (disch := first | omega | assumption | decide) only [go_sem, hm, hz, ht, hr_, g1, g2, g7, g9, g15, g11, g13, hlb, hlb2, hap, hbp, wdl, bind_some_, map_some_, oneD_fold] | refine ifP_in (fun _ => ?_) fun _ => ?_
                refine rF_use (jsize_w hLr.a hbb) ?_
                rintro _ Ky ⟨rfl, rfl⟩
                repeat' first | simp (disch := first | omega | assumption | decide) only [go_sem, hm, hz, ht, hr_, g1, g2, g7, g9, g15, g11, g13, hlb, hlb2, hap, hbp, wdl, bind_some_, map_some_, oneD_fold] | refine ifP_in (fun _ => ?_) fun _ => ?_
                refine rF_use (rlsize_w hLr.b hbb) ?_
                rintro _ Kz ⟨rfl, rfl⟩
                repeat' first | simp (disch := first | omega | assumption | decide) only [go_sem, hm, hz, ht, hr_, g1, g2, g7, g9, g15, g11, g13, hlb, hlb2, hap, hbp, wdl, bind_some_, map_some_, oneD_fold] | refine ifP_in (fun _ => ?_) fun _ => ?_
                refine rF_use (jbad_w hLr.a) ?_
                rintro _ Kw ⟨rfl, rfl⟩
                repeat' first | simp (disch := first | omega | assumption | decide) only [go_sem, hm, hz, ht, hr_, g1, g2, g7, g9, g15, g11, g13, hlb, hlb2, hap, hbp, bne_self_eq_false, beq_self_eq_true, Bool.not_true, wdl, bind_some_, map_some_, oneD_fold] | refine ifP_in (fun _ => ?_) fun _ => ?_
                exact ⟨i + 1, ⟨rfl, by omega, _, _, hkN.le (by omega), .inr ⟨_, _, lg', _, _, rfl, rfl, hLr, hbd'⟩⟩, by omega⟩
            · rcases hb with ⟨g11, g13, S, T, hp⟩ | ⟨jl, kl, lg, S, T, g11, g13, hL, hbd⟩
              · by_cases hkd : o.kind < 0 ∨ 2 < o.kind
                · rcases hkd with hkd | hkd
                  all_goals
                    repeat' first | simp (disch := first | omega | assumption | decide) only [go_sem, hm, hz, ht, hr_, g1, g2, g7, g9, g15, g11, g13, hix, cells_opJ, agg_opV', plain_opV, wdl, bind_some_, map_some_, oneD_fold] | refine ifP_in (fun _ => ?_) fun _ => ?_
                    refine rF_use (does_w' hp hk hk (by omega) (by omega) o.d o4) ?_
                    rintro _ K7 ⟨t, rfl, ht7, S7, T7, hpN, hs7⟩
                    rw [ht7 hk.live]
                    have hkN := hk.does o4
                    repeat' first | simp (disch := first | omega | assumption | decide) only [go_sem, hm, hz, ht, hr_, g1, g2, g7, g9, g15, g11, g13, wdl, bind_some_, map_some_, oneD_fold] | refine ifP_in (fun _ => ?_) fun _ => ?_
                    refine rF_use (same_w hpN hkN (by omega)) ?_
                    rintro _ Ks ⟨rfl, rfl⟩
                    repeat' first | simp (disch := first | omega | assumption | decide) only [go_sem, hm, hz, ht, hr_, g1, g2, g7, g9, g15, g11, g13, wdl, bind_some_, map_some_, oneD_fold] | refine ifP_in (fun _ => ?_) fun _ => ?_
                    exact ⟨i + 1, ⟨rfl, by omega, _, _, hkN.le (by omega), .inl ⟨rfl, rfl, _, _, hpN⟩⟩, by omega⟩
                · have hkN := hk
                  have hpN := hp
                  rcases (show o.kind = 0 ∨ o.kind = 1 by omega) with hkd | hkd
                  all_goals
                    repeat' first | simp (disch := first | omega | assumption | decide) only [go_sem, hm, hz, ht, hr_, g1, g2, g7, g9, g15, g11, g13, hix, cells_opJ, hkd, wdl, bind_some_, map_some_, oneD_fold] | refine ifP_in (fun _ => ?_) fun _ => ?_
                    refine rF_use (same_w hpN hkN (by omega)) ?_
                    rintro _ Ks ⟨rfl, rfl⟩
                    repeat' first | simp (disch := first | omega | assumption | decide) only [go_sem, hm, hz, ht, hr_, g1, g2, g7, g9, g15, g11, g13, wdl, bind_some_, map_some_, oneD_fold] | refine ifP_in (fun _ => ?_) fun _ => ?_
                    exact ⟨i + 1, ⟨rfl, by omega, _, _, hkN.le (by omega), .inl ⟨rfl, rfl, _, _, hpN⟩⟩, by omega⟩
              · by_cases hkd : o.kind < 0 ∨ 2 < o.kind
                · obtain ⟨Sd, Td, hp, hbelow⟩ := hL.below
                  rcases hkd with hkd | hkd
                  all_goals
                    repeat' first | simp (disch := first | omega | assumption | decide) only [go_sem, hm, hz, ht, hr_, g1, g2, g7, g9, g15, g11, g13, hix, cells_opJ, agg_opV', plain_opV, wdl, bind_some_, map_some_, oneD_fold] | refine ifP_in (fun _ => ?_) fun _ => ?_
                    refine rF_use (does_w' hp hk hk (by omega) (by omega) o.d o4) ?_
                    rintro _ K7 ⟨t, rfl, ht7, S7, T7, hp7, hs7⟩
                    rw [ht7 hk.live]
                    have hkN := hk.does o4
                    obtain ⟨S2, T2, hLN⟩ := hbelow _ _ _ _ _ hp7 hs7
                    obtain ⟨jl', hjl'⟩ : ∃ x, x = jl := ⟨_, rfl⟩
                    obtain ⟨lg', hlg'⟩ : ∃ x, x = lg := ⟨_, rfl⟩
                    rw [← hlg'] at hLN hbd
                    have hbd' : (Jr.frames lg'.recs).length ≤ 1073741824 + 71000 * (i + 1) := by omega
                    repeat' first | simp (disch := first | omega | assumption | decide) only [go_sem, hm, hz, ht, hr_, g1, g2, g7, g9, g15, g11, g13, wdl, bind_some_, map_some_, oneD_fold] | refine ifP_in (fun _ => ?_) fun _ => ?_
                    obtain ⟨Sd, Td, hpN, _, _⟩ := hLN.pair
                    refine rF_use (same_w hpN hkN (by omega)) ?_
                    rintro _ Ks ⟨rfl, rfl⟩
                    have hbb := bnd hbd' (by omega)
                    have hft := Nat.le_trans (Jm.fit lg'.recs) hbb
                    repeat' first | simp (disch := first | omega | assumption | decide) only [go_sem, hm, hz, ht, hr_, g1, g2, g7, g9, g15, g11, g13, wdl, bind_some_, map_some_, oneD_fold] | refine ifP_in (fun _ => ?_) fun _ => ?_
                    refine rF_use (jrecords_w hLN.a hbb) ?_
                    rintro ra Kr ⟨hra, hpr⟩
                    have hLr := hLN.pre hpr
                    obtain ⟨pb, tp, Td2, hRB, hTe⟩ := hLN.b
                    have hlb := hRB.hl
                    have hlb2 := pre_get hpr hlb
                    have hbp := hRB.recs.plain
                    have hap := hra.plain
                    repeat' first | simp (disch := first | omega | assumption | decide) only [go_sem, hm, hz, ht, hr_, g1, g2, g7, g9, g15, g11, g13, hlb, hlb2, hap, hbp, wdl, bind_some_, map_some_, oneD_fold] | refine ifP_in (fun _ => ?_) fun _ => ?_
                    refine rF_use (rLists_w lg'.recs lg'.recs (by omega) rfl rfl) ?_
                    rintro _ Kx ⟨rfl, rfl⟩
                    rw [decide_eq_true (Eq.refl lg'.recs)]
                    repeat' first | simp (disch := first | omega | assumption | decide) only [go_sem, hm, hz, ht, hr_, g1, g2, g7, g9, g15, g11, g13, hlb, hlb2, hap, hbp, wdl, bind_some_, map_some_, oneD_fold] | refine ifP_in (fun _ => ?_) fun _ => ?_
                    refine rF_use (jsize_w hLr.a hbb) ?_
                    rintro _ Ky ⟨rfl, rfl⟩
                    repeat' first | simp (disch := first | omega | assumption | decide) only [go_sem, hm, hz, ht, hr_, g1, g2, g7, g9, g15, g11, g13, hlb, hlb2, hap, hbp, wdl, bind_some_, map_some_, oneD_fold] | refine ifP_in (fun _ => ?_) fun _ => ?_
                    refine rF_use (rlsize_w hLr.b hbb) ?_
                    rintro _ Kz ⟨rfl, rfl⟩
                    repeat' first | simp (disch := first | omega | assumption | decide) only [go_sem, hm, hz, ht, hr_, g1, g2, g7, g9, g15, g11, g13, hlb, hlb2, hap, hbp, wdl, bind_some_, map_some_, oneD_fold] | refine ifP_in (fun _ => ?_) fun _ => ?_
                    refine rF_use (jbad_w hLr.a) ?_
                    rintro _ Kw ⟨rfl, rfl⟩
                    repeat' first | simp (disch := first | omega | assumption | decide) only [go_sem, hm, hz, ht, hr_, g1, g2, g7, g9, g15, g11, g13, hlb, hlb2, hap, hbp, bne_self_eq_false, beq_self_eq_true, Bool.not_true, wdl, bind_some_, map_some_, oneD_fold] | refine ifP_in (fun _ => ?_) fun _ => ?_
                    exact ⟨i + 1, ⟨rfl, by omega, _, _, hkN.le (by omega), .inr ⟨_, _, lg', _, _, rfl, rfl, hLr, hbd'⟩⟩, by omega⟩
                · have hbb := bnd hbd (by omega)
                  have hft := Nat.le_trans (Jm.fit lg.recs) hbb
                  rcases (show o.kind = 0 ∨ o.kind = 1 by omega) with hkd | hkd
                  · repeat' first | simp (disch := first | omega | assumption | decide) only [go_sem, hm, hz, ht, hr_, g1, g2, g7, g9, g15, g11, g13, hix, cells_opJ, hkd, AV.bytes, wdl, bind_some_, map_some_, oneD_fold] | refine ifP_in (fun _ => ?_) fun _ => ?_
                    refine rF_use (jappend_w hL.a ((may_of hk (by omega)).le (by omega)) (by omega) (by omega) o.b o1) ?_
                    rintro _ K1 ⟨rfl, S1, hA1, hs1⟩
                    obtain ⟨q1, q2⟩ := hs1.beside hL.b.lt hL.ap
                    have hB1 := hL.b.same q1
                    repeat' first | simp (disch := first | omega | assumption | decide) only [go_sem, hm, hz, ht, hr_, g1, g2, g7, g9, g15, g11, g13, hix, cells_opJ, hkd, AV.bytes, wdl, bind_some_, map_some_, oneD_fold] | refine ifP_in (fun _ => ?_) fun _ => ?_
                    refine rF_use (rlappend_w hB1 hk (by omega) (by omega) (by omega) o.b o1) ?_
                    rintro _ K2 ⟨rfl, T1, hB2, hs2⟩
                    obtain ⟨q3, q4⟩ := hs2.beside hA1.lt (fun x hx hxS => q2 x hxS hx)
                    have hA2 := hA1.same q3
                    obtain ⟨hkN, hao⟩ := Jm.append_ok hk name lg o.b
                    have hrc := Jm.append_recs (s := s) name lg o.b
                    rw [hao] at hB2 ⊢
                    generalize Jl.append s name lg o.b = ja at *
                    generalize Jm.append r name lg o.b = jb at *
                    obtain ⟨lg', hlg'⟩ : ∃ x, x = ja.2.1 := ⟨_, rfl⟩
                    rw [← hlg'] at hA2 hB2 hrc
                    have hLN : Logs K2 j k jl kl S1 T1 name lg' ja.1 jb.1 := ⟨hA2, hB2, fun x hx hxT => q4 x hxT hx⟩
                    have hbd' := bnd_a hbd hrc (by omega)
                    repeat' first | simp (disch := first | omega | assumption | decide) only [go_sem, hm, hz, ht, hr_, g1, g2, g7, g9, g15, g11, g13, hix, cells_opJ, AV.bytes, beq_self_eq_true, wdl, bind_some_, map_some_, oneD_fold] | refine ifP_in (fun _ => ?_) fun _ => ?_
                    obtain ⟨Sd, Td, hpN, _, _⟩ := hLN.pair
                    refine rF_use (same_w hpN hkN (by omega)) ?_
                    rintro _ Ks ⟨rfl, rfl⟩
                    have hbb := bnd hbd' (by omega)
                    have hft := Nat.le_trans (Jm.fit lg'.recs) hbb
                    repeat' first | simp (disch := first | omega | assumption | decide) only [go_sem, hm, hz, ht, hr_, g1, g2, g7, g9, g15, g11, g13, wdl, bind_some_, map_some_, oneD_fold] | refine ifP_in (fun _ => ?_) fun _ => ?_
                    refine rF_use (jrecords_w hLN.a hbb) ?_
                    rintro ra Kr ⟨hra, hpr⟩
                    have hLr := hLN.pre hpr
                    obtain ⟨pb, tp, Td2, hRB, hTe⟩ := hLN.b
                    have hlb := hRB.hl
                    have hlb2 := pre_get hpr hlb
                    have hbp := hRB.recs.plain
                    have hap := hra.plain
                    repeat' first | simp (disch := first | omega | assumption | decide) only [go_sem, hm, hz, ht, hr_, g1, g2, g7, g9, g15, g11, g13, hlb, hlb2, hap, hbp, wdl, bind_some_, map_some_, oneD_fold] | refine ifP_in (fun _ => ?_) fun _ => ?_
                    refine rF_use (rLists_w lg'.recs lg'.recs (by omega) rfl rfl) ?_
                    rintro _ Kx ⟨rfl, rfl⟩
                    rw [decide_eq_true (Eq.refl lg'.recs)]
                    repeat' first | simp (disch := first | omega | assumption | decide) only [go_sem, hm, hz, ht, hr_, g1, g2, g7, g9, g15, g11, g13, hlb, hlb2, hap, hbp, wdl, bind_some_, map_some_, oneD_fold] | refine ifP_in (fun _ => ?_) fun _ => ?_
                    refine rF_use (jsize_w hLr.a hbb) ?_
                    rintro _ Ky ⟨rfl, rfl⟩
                    repeat' first | simp (disch := first | omega | assumption | decide) only [go_sem, hm, hz, ht, hr_, g1, g2, g7, g9, g15, g11, g13, hlb, hlb2, hap, hbp, wdl, bind_some_, map_some_, oneD_fold] | refine ifP_in (fun _ => ?_) fun _ => ?_
                    refine rF_use (rlsize_w hLr.b hbb) ?_
                    rintro _ Kz ⟨rfl, rfl⟩
                    repeat' first | simp (disch := first | omega | assumption | decide) only [go_sem, hm, hz, ht, hr_, g1, g2, g7, g9, g15, g11, g13, hlb, hlb2, hap, hbp, wdl, bind_some_, map_some_, oneD_fold] | refine ifP_in (fun _ => ?_) fun _ => ?_
                    refine rF_use (jbad_w hLr.a) ?_
                    rintro _ Kw ⟨rfl, rfl⟩
                    repeat' first | simp (disch := first | omega | assumption | decide) only [go_sem, hm, hz, ht, hr_, g1, g2, g7, g9, g15, g11, g13, hlb, hlb2, hap, hbp, bne_self_eq_false, beq_self_eq_true, Bool.not_true, wdl, bind_some_, map_some_, oneD_fold] | refine ifP_in (fun _ => ?_) fun _ => ?_
                    exact ⟨i + 1, ⟨rfl, by omega, _, _, hkN.le (by omega), .inr ⟨_, _, lg', _, _, rfl, rfl, hLr, hbd'⟩⟩, by omega⟩
                  · have hfo := frames_total o.l
                    repeat' first | simp (disch := first | omega | assumption | decide) only [go_sem, hm, hz, ht, hr_, g1, g2, g7, g9, g15, g11, g13, hix, cells_opJ, hkd, wdl, bind_some_, map_some_, oneD_fold] | refine ifP_in (fun _ => ?_) fun _ => ?_
                    refine rF_use (jrenew_w hL.a ((may_of hk (by omega)).le (by omega)) (by omega) o.l (by omega) (by omega) (fun p hp => by have := mem_total hp; omega)) ?_
                    rintro _ K1 ⟨rfl, S1, hA1, hs1⟩
                    obtain ⟨q1, q2⟩ := hs1.beside hL.b.lt hL.ap
                    have hB1 := hL.b.same q1
                    repeat' first | simp (disch := first | omega | assumption | decide) only [go_sem, hm, hz, ht, hr_, g1, g2, g7, g9, g15, g11, g13, hix, cells_opJ, hkd, wdl, bind_some_, map_some_, oneD_fold] | refine ifP_in (fun _ => ?_) fun _ => ?_
                    refine rF_use (rlrenew_w hB1 hk (by omega) (by omega) o.l (by omega) (by omega) (fun p hp => by have := mem_total hp; omega)) ?_
                    rintro _ K2 ⟨rfl, T1, hB2, hs2⟩
                    obtain ⟨q3, q4⟩ := hs2.beside hA1.lt (fun x hx hxS => q2 x hxS hx)
                    have hA2 := hA1.same q3
                    obtain ⟨hkN, hao, _, hae⟩ := Jm.renew_ok hk name lg lg rfl o.l
                    have hae := hae rfl
                    have hrc := Jm.renew_recs (s := s) name lg o.l
                    rw [hae] at hB2
                    rw [hao]
                    generalize Jl.renew s name lg o.l = ja at *
                    generalize Jm.renew r name lg o.l = jb at *
                    obtain ⟨lg', hlg'⟩ : ∃ x, x = ja.2.1 := ⟨_, rfl⟩
                    rw [← hlg'] at hA2 hB2 hrc
                    have hLN : Logs K2 j k jl kl S1 T1 name lg' ja.1 jb.1 := ⟨hA2, hB2, fun x hx hxT => q4 x hxT hx⟩
                    have hbd' := bnd_a hbd hrc (by omega)
                    repeat' first | simp (disch := first | omega | assumption | decide) only [go_sem, hm, hz, ht, hr_, g1, g2, g7, g9, g15, g11, g13, hix, cells_opJ, beq_self_eq_true, wdl, bind_some_, map_some_, oneD_fold] | refine ifP_in (fun _ => ?_) fun _ => ?_
                    obtain ⟨Sd, Td, hpN, _, _⟩ := hLN.pair
                    refine rF_use (same_w hpN hkN (by omega)) ?_
                    rintro _ Ks ⟨rfl, rfl⟩
                    have hbb := bnd hbd' (by omega)
                    have hft := Nat.le_trans (Jm.fit lg'.recs) hbb
                    repeat' first | simp (disch := first | omega | assumption | decide) only [go_sem, hm, hz, ht, hr_, g1, g2, g7, g9, g15, g11, g13, wdl, bind_some_, map_some_, oneD_fold] | refine ifP_in (fun _ => ?_) fun _ => ?_
                    refine rF_use (jrecords_w hLN.a hbb) ?_
                    rintro ra Kr ⟨hra, hpr⟩
                    have hLr := hLN.pre hpr
                    obtain ⟨pb, tp, Td2, hRB, hTe⟩ := hLN.b
                    have hlb := hRB.hl
                    have hlb2 := pre_get hpr hlb
                    have hbp := hRB.recs.plain
                    have hap := hra.plain
                    repeat' first | simp (disch := first | omega | assumption | decide) only [go_sem, hm, hz, ht, hr_, g1, g2, g7, g9, g15, g11, g13, hlb, hlb2, hap, hbp, wdl, bind_some_, map_some_, oneD_fold] | refine ifP_in (fun _ => ?_) fun _ => ?_
                    refine rF_use (rLists_w lg'.recs lg'.recs (by omega) rfl rfl) ?_
                    rintro _ Kx ⟨rfl, rfl⟩
                    rw [decide_eq_true (Eq.refl lg'.recs)]
                    repeat' first | simp (disch := first | omega | assumption | decide) only [go_sem, hm, hz, ht, hr_, g1, g2, g7, g9, g15, g11, g13, hlb, hlb2, hap, hbp, wdl, bind_some_, map_some_, oneD_fold] | refine ifP_in (fun _ => ?_) fun _ => ?_
                    refine rF_use (jsize_w hLr.a hbb) ?_
                    rintro _ Ky ⟨rfl, rfl⟩
                    repeat' first | simp (disch := first | omega | assumption | decide) only [go_sem, hm, hz, ht, hr_, g1, g2, g7, g9, g15, g11, g13, hlb, hlb2, hap, hbp, wdl, bind_some_, map_some_, oneD_fold] | refine ifP_in (fun _ => ?_) fun _ => ?_
                    refine rF_use (rlsize_w hLr.b hbb) ?_
                    rintro _ Kz ⟨rfl, rfl⟩
                    repeat' first | simp (disch := first | omega | assumption | decide) only [go_sem, hm, hz, ht, hr_, g1, g2, g7, g9, g15, g11, g13, hlb, hlb2, hap, hbp, wdl, bind_some_, map_some_, oneD_fold] | refine ifP_in (fun _ => ?_) fun _ => ?_
                    refine rF_use (jbad_w hLr.a) ?_
                    rintro _ Kw ⟨rfl, rfl⟩
                    repeat' first | simp (disch := first | omega | assumption | decide) only [go_sem, hm, hz, ht, hr_, g1, g2, g7, g9, g15, g11, g13, hlb, hlb2, hap, hbp, bne_self_eq_false, beq_self_eq_true, Bool.not_true, wdl, bind_some_, map_some_, oneD_fold] | refine ifP_in (fun _ => ?_) fun _ => ?_
                    exact ⟨i + 1, ⟨rfl, by omega, _, _, hkN.le (by omega), .inr ⟨_, _, lg', _, _, rfl, rfl, hLr, hbd'⟩⟩, by omega⟩
          · have : i = l.length := by omega
            subst this
            repeat' first | simp (disch := first | omega | assumption | decide) only [go_sem, hm, hz, ht, hr_, g1, g2, g7, g9, g15, wdl, bind_some_, map_some_, oneD_fold] | refine ifP_in (fun _ => ?_) fun _ => ?_
            refine rF_use first23_w ?_
            rintro _ H7 ⟨rfl, rfl⟩
            repeat' first | simp (disch := first | omega | assumption | decide) only [go_sem, hm, hz, ht, hr_, wdl, bind_some_, map_some_, oneD_fold] | refine ifP_in (fun _ => ?_) fun _ => ?_
      · refine rF_use (new_bad room hg) ?_
        rintro _ H3 ⟨rfl, rfl⟩
        repeat' first | simp (disch := first | omega | assumption | decide) only [go_sem, hm, hz, ht, hr_, wdl, bind_some_, map_some_, oneD_fold] | refine ifP_in (fun _ => ?_) fun _ => ?_
        refine rF_use (rnew_bad room hg) ?_
        rintro _ H4 ⟨rfl, rfl⟩
        repeat' first | simp (disch := first | omega | assumption | decide) only [go_sem, hm, hz, ht, hr_, wdl, bind_some_, map_some_, oneD_fold] | refine ifP_in (fun _ => ?_) fun _ => ?_
        refine rF_use first23_w ?_
        rintro _ H7 ⟨rfl, rfl⟩
        repeat' first | simp (disch := first | omega | assumption | decide) only [go_sem, hm, hz, ht, hr_, wdl, bind_some_, map_some_, oneD_fold] | refine ifP_in (fun _ => ?_) fun _ => ?_
theorem jplays_all (room : Int) (name : Bs) (l : List JOp) (_h0 : (Lit.int .i64 room).wf = true) (hnm : name.length ≤ 140737488355328) (hl : l.length ≤ 140737488355328) (hbig : ∀ o ∈ l, BigJ o) : WF Tryz.prog cfg 3 [.i room, .str name, .sl (l.map opJ)] H (fun v H' => v = .b true) := jplays_w room name l hl hbig hnm
end Jn
end Go.Proofs
