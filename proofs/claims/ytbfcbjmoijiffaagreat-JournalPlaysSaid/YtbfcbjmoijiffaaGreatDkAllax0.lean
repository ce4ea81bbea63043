/- Walks: the disk's files. -/
import Derived.Test.YtbfcbjmoijiffaaGreatJrAllbx1
import Derived.Test.YtbfcbjmoijiffaaGreatJrMap
set_option linter.unusedVariables false
set_option linter.unusedSimpArgs false
namespace Go.Proofs
open Go.Lv
namespace Jn
open Dk (Files Bs Ch Ev)
variable {H : Heap}

def evA (e : Ev) : AV := .agg [.i e.at_, .i e.kind, .i e.keep, .i e.torn]
def chD (c : Ch) : AV := if c.puts = true ∨ c.behind = true then AV.bytes c.data else nilA
def chA (c : Ch) : AV := .agg [AV.str c.name, AV.str c.frm, chD c, .b c.puts, .b c.behind]
instance : CellsN evA 4 := ⟨fun _ => rfl⟩
instance : CellsN chA 5 := ⟨fun _ => rfl⟩
theorem chD_one (c : Ch) : (chD c).one = true := by unfold chD; split <;> rfl
instance : OneOK evA := ⟨fun _ => rfl⟩
instance : OneOK chA := ⟨fun c => by simp only [chA, AV.cells, List.all_cons, List.all_nil, chD_one, Bool.and_true, Bool.true_and]; rfl⟩
theorem cells_chA (c : Ch) : (chA c).cells = [AV.str c.name, AV.str c.frm, chD c, .b c.puts, .b c.behind] := rfl
theorem chA_one (c : Ch) : (chA c).cells.all AV.one = true := OneOK.h (f := chA) c

theorem zeroV_bytes : zeroV Tryz.prog 38 = some (.sl []) := by kernel_rfl
theorem make_w (f : Files) (c : Ch) {a : Nat} (ha : H[a]? = some (filesA f)) (hu : Dk.used f + c.data.length ≤ 4000000000) :
    WF Tryz.prog cfg 85 [.mp a, chA c] H (fun r H' => r = .tup [] ∧ H' = (H ++ [(chA c).cells]).set a (filesA (Dk.make f c))) := by
  have hal : a < H.length := (List.getElem?_eq_some_iff.1 ha).1
  have ha1 : (H ++ [(chA c).cells])[a]? = some (filesA f) := by rw [List.getElem?_append_left hal]; exact ha
  have hb : (H ++ [(chA c).cells])[H.length]? = some [AV.str c.name, AV.str c.frm, chD c, .b c.puts, .b c.behind] := by rw [List.getElem?_append_right (Nat.le_refl _), Nat.sub_self]; rfl
  have hone := chA_one c
  have hcells : (chA c).cells.length = 5 := rfl
  have hl1 : (H ++ [(chA c).cells]).length = H.length + 1 := by simp
  have hm : ∀ d, cfg.muF 85 d = (false) := fun _ => rfl
  have hz : ∀ d, cfg.fzF 85 d = (false) := fun _ => rfl
  have ht : ∀ d, cfg.tkF 85 d = (false) := fun _ => rfl
  have hr_ : ∀ g, cfg.raw g = (g == 68) := fun _ => rfl
  refine rF_fn rfl rfl Tryz.func85 rfl ?_
  generalize hH1 : H ++ [(chA c).cells] = H1 at ha1 hb hl1
  have hlk : ∀ n, lookupA Tryz.prog H1 62 (.mp a) (AV.str n) false = some (.sl ((Dk.data f n).map byteA)) := fun n => lookup_files (kt := 9) (et := 38) zeroV_bytes ha1
  have hup : ∀ n b, updateA Tryz.prog H1 62 (.mp a) (AV.str n) (.sl (b.map byteA)) = some (H1.set a (filesA (Dk.set f n b))) := fun n b => update_files (kt := 9) (et := 38) ha1
  have hdl : ∀ n, deleteA Tryz.prog H1 62 (.mp a) (AV.str n) = some (H1.set a (filesA (Dk.del f n))) := fun n => delete_files (kt := 9) (et := 38) ha1
  have hdle := Dk.data_le f
  have hne : a ≠ H.length := by omega
  cases hbe : c.behind with
  | true =>
    have hd : chD c = .sl (c.data.map byteA) := by unfold chD; rw [if_pos (.inr hbe)]; rfl
    rw [hbe, hd] at hb
    have h1 := hdle c.name
    repeat' first | simp (disch := first | omega | assumption | decide) only [go_sem, hm, hz, ht, hr_, hone, hH1, hb, hlk] | refine ifP_in (fun _ => ?_) fun _ => ?_
    refine rF_use (clone_w (Dk.data f c.name) (by omega) (.inl rfl)) ?_
    rintro _ H2 ⟨rfl, rfl⟩
    have hb2 : ∀ x, (H2.set a x)[H.length]? = some [AV.str c.name, AV.str c.frm, .sl (c.data.map byteA), .b c.puts, .b true] := fun x => by rw [List.getElem?_set_ne hne]; exact hb
    repeat' first | simp (disch := first | omega | assumption | decide) only [go_sem, hm, hz, ht, hr_, hone, hH1, hb, hlk, hup, hb2] | refine ifP_in (fun _ => ?_) fun _ => ?_
    rw [Dk.make, if_pos hbe]
  | false =>
    cases hpu : c.puts with
    | true =>
      have hd : chD c = .sl (c.data.map byteA) := by unfold chD; rw [if_pos (.inl hpu)]; rfl
      rw [hbe, hpu, hd] at hb
      repeat' first | simp (disch := first | omega | assumption | decide) only [go_sem, hm, hz, ht, hr_, hone, hH1, hb, hlk] | refine ifP_in (fun _ => ?_) fun _ => ?_
      refine rF_use (clone_w c.data (by omega) (.inl rfl)) ?_
      rintro _ H2 ⟨rfl, rfl⟩
      have hb2 : ∀ x, (H2.set a x)[H.length]? = some [AV.str c.name, AV.str c.frm, .sl (c.data.map byteA), .b true, .b false] := fun x => by rw [List.getElem?_set_ne hne]; exact hb
      repeat' first | simp (disch := first | omega | assumption | decide) only [go_sem, hm, hz, ht, hr_, hone, hH1, hb, hlk, hup, hb2] | refine ifP_in (fun _ => ?_) fun _ => ?_
      rw [Dk.make, if_neg (by rw [hbe]; simp), if_pos hpu]
    | false =>
      have hd : chD c = nilA := by unfold chD; rw [if_neg (by rw [hbe, hpu]; simp)]
      rw [hbe, hpu, hd] at hb
      by_cases hfr : c.frm = []
      · repeat' first | simp (disch := first | omega | assumption | decide) only [go_sem, hm, hz, ht, hr_, hone, hH1, hb, hlk, hdl, hfr] | refine ifP_in (fun _ => ?_) fun _ => ?_
        rw [Dk.make, if_neg (by rw [hbe]; simp), if_neg (by rw [hpu]; simp), if_neg (by rw [hfr]; simp)]
      · have hb3 : ∀ x, (H1.set a x)[H.length]? = some [AV.str c.name, AV.str c.frm, nilA, .b false, .b false] := fun x => by rw [List.getElem?_set_ne hne]; exact hb
        have ha2 : (H1.set a (filesA (Dk.del f c.frm)))[a]? = some (filesA (Dk.del f c.frm)) := get_set (by omega)
        have hup2 : ∀ n b, updateA Tryz.prog (H1.set a (filesA (Dk.del f c.frm))) 62 (.mp a) (AV.str n) (.sl (b.map byteA)) = some (H1.set a (filesA (Dk.set (Dk.del f c.frm) n b))) := fun n b => by
          have := update_files (P := Tryz.prog) (t := 62) (kt := 9) (et := 38) (n := n) (b := b) ha2
          rw [List.set_set] at this
          exact this
        repeat' first | simp (disch := first | omega | assumption | decide) only [go_sem, hm, hz, ht, hr_, hone, hH1, hb, hlk, hdl, hup2, hfr, hb3] | refine ifP_in (fun _ => ?_) fun _ => ?_
        rw [Dk.make, if_neg (by rw [hbe]; simp), if_neg (by rw [hpu]; simp), if_pos hfr]
end Jn
end Go.Proofs
/- Walks: the disk falls. -/
set_option linter.unusedVariables false
set_option linter.unusedSimpArgs false
namespace Go.Proofs
open Go.Lv
namespace Jn
open Dk (Files Bs Ch Ev)
variable {H : Heap}

theorem end_get (H : Heap) (cs : List AV) : (H ++ [cs])[H.length]? = some cs := by rw [List.getElem?_append_right (Nat.le_refl _), Nat.sub_self]; rfl
theorem old_get {H : Heap} {i : Nat} (cs : List AV) (h : i < H.length) : (H ++ [cs])[i]? = H[i]? := List.getElem?_append_left h
theorem chD_data {c : Ch} (h : c.puts = true ∨ c.behind = true) : chD c = .sl (c.data.map byteA) := by unfold chD; rw [if_pos h]; rfl
theorem chD_nil {c : Ch} (h : ¬ (c.puts = true ∨ c.behind = true)) : chD c = nilA := by unfold chD; rw [if_neg h]
theorem chA_eq (c : Ch) : chA c = .agg [AV.str c.name, AV.str c.frm, chD c, .b c.puts, .b c.behind] := rfl

theorem oneD_chD {c : Ch} {α : Type} {l : List AV} {r : α} : oneD (chD c :: l) r = oneD l r := oneD_cons (chD_one c)
theorem torn_w (c : Ch) (n : Int) : WF Tryz.prog cfg 86 [chA c, .i n] H (fun r H' => r = (match Dk.torn c n with | some c' => .tup [chA c', .b true] | none => .tup [chA c, .b false]) ∧ H <+: H') := by
  have hone := chA_one c
  have hd1 := chD_one c
  have hm : ∀ d, cfg.muF 86 d = (false) := fun _ => rfl
  have hz : ∀ d, cfg.fzF 86 d = (false) := fun _ => rfl
  have ht : ∀ d, cfg.tkF 86 d = (false) := fun _ => rfl
  have hr_ : ∀ g, cfg.raw g = (g == 68) := fun _ => rfl
  refine rF_fn rfl rfl Tryz.func86 rfl ?_
  have hb := end_get H (chA c).cells
  have hl1 : (H ++ [(chA c).cells]).length = H.length + 1 := by simp
  have hp1 : H <+: H ++ [(chA c).cells] := List.prefix_append _ _
  have hp2 : H <+: H ++ [(chA c).cells] ++ [[AV.str [], AV.str [], nilA, AV.b false, AV.b false]] := pre_add hp1 _
  have hb2 : (H ++ [(chA c).cells] ++ [[AV.str [], AV.str [], nilA, AV.b false, AV.b false]])[H.length]? = some [AV.str c.name, AV.str c.frm, chD c, .b c.puts, .b c.behind] := by rw [old_get _ (by omega)]; exact hb
  have hb3 := end_get (H ++ [(chA c).cells]) [AV.str [], AV.str [], nilA, AV.b false, AV.b false]
  rw [hl1] at hb3
  generalize hH1 : H ++ [(chA c).cells] = H1 at *
  generalize hH2 : H1 ++ [[AV.str [], AV.str [], nilA, AV.b false, AV.b false]] = H2 at *
  by_cases hpb : c.puts = true ∨ c.behind = true
  · have hd := chD_data hpb
    rw [hd] at hb2
    have hw : (if c.puts = true then (if c.behind = true then true else true) else c.behind) = true := by rcases hpb with h | h <;> simp [h]
    by_cases hn : n < 0 ∨ (c.data.length : Int) ≤ n
    · have ht0 : Dk.torn c n = none := by unfold Dk.torn; rw [if_pos (.inr hn)]
      rw [ht0]
      cases hp : c.puts <;> cases hbe : c.behind <;> rw [hp, hbe] at hb2 hpb
      · simp at hpb
      all_goals
        by_cases h0 : n < 0
        · repeat' first | simp (disch := first | omega | assumption | decide) only [go_sem, hm, hz, ht, hr_, hone, hH1, hH2, hb2, hl1, hb3, wdl, bind_some_, map_some_, oneD_fold] | refine ifP_in (fun _ => ?_) fun _ => ?_
          exact ⟨by simp [chA_eq, chD, hp, hbe, AV.bytes], pre_set1 hp2 (by omega) _⟩
        · repeat' first | simp (disch := first | omega | assumption | decide) only [go_sem, hm, hz, ht, hr_, hone, hH1, hH2, hb2, hl1, hb3, wdl, bind_some_, map_some_, oneD_fold] | refine ifP_in (fun _ => ?_) fun _ => ?_
          exact ⟨by simp [chA_eq, chD, hp, hbe, AV.bytes], pre_set1 hp2 (by omega) _⟩
    · have ht0 : Dk.torn c n = some { c with data := c.data.take n.toNat } := by 
        unfold Dk.torn
        rw [if_neg]
        rintro (h | h)
        · rcases hpb with h' | h' <;> simp [h'] at h
        · exact hn h
      rw [ht0]
      cases hp : c.puts <;> cases hbe : c.behind <;> rw [hp, hbe] at hb2 hpb
      · simp at hpb
      all_goals
        repeat' first | simp (disch := first | omega | assumption | decide) only [go_sem, hm, hz, ht, hr_, hone, hH1, hH2, hb2, hl1, hb3, wdl, bind_some_, map_some_, oneD_fold] | refine ifP_in (fun _ => ?_) fun _ => ?_
        exact ⟨by simp [chA_eq, chD, AV.bytes], pre_set1 (pre_set1 hp2 (Nat.le_refl _) _) (by omega) _⟩
  · have hd := chD_nil hpb
    have ht0 : Dk.torn c n = none := by unfold Dk.torn; rw [if_pos (.inl ⟨by cases h : c.puts <;> simp_all, by cases h : c.behind <;> simp_all⟩)]
    have hp : c.puts = false := by cases h : c.puts <;> simp_all
    have hbe : c.behind = false := by cases h : c.behind <;> simp_all
    rw [hd, hp, hbe] at hb2
    rw [ht0]
    repeat' first | simp (disch := first | omega | assumption | decide) only [go_sem, hm, hz, ht, hr_, hone, hH1, hH2, hb2, hl1, hb3, wdl, bind_some_, map_some_, oneD_fold] | refine ifP_in (fun _ => ?_) fun _ => ?_
    exact ⟨by simp [chA_eq, chD, hp, hbe], pre_set1 hp2 (by omega) _⟩
end Jn
end Go.Proofs
/- Walks: the disk as it stands in memory; it falls. -/
set_option linter.unusedVariables false
set_option linter.unusedSimpArgs false
namespace Go.Proofs
open Go.Lv
namespace Jn
open Dk (Files Bs Ch Ev)
variable {H : Heap}

def PlanOf (a : AV) (l : List Ev) : Prop := (a = nilA ∧ l = []) ∨ (a = .sl [] ∧ l = []) ∨ (0 < l.length ∧ ∃ k, a = .ow (l.map evA) k)
structure DiskR (H : Heap) (j a b : Nat) (pa pl : AV) (s : Dk.Disk) : Prop where
  hj : H[j]? = some [.i s.room, .mp a, .mp b, pa, pl, .i s.calls, .b s.down]
  ha : H[a]? = some (filesA s.now)
  hb : H[b]? = some (filesA s.dur)
  ab : a ≠ b
  pend : TokOf chA 5 0 H pa s.pend
  plan : PlanOf pl s.plan
def tokP : AV → List Nat
  | .ow _ k => [k]
  | _ => []
theorem tokP_nil : tokP nilA = [] := rfl
def DiskAt (H : Heap) (j : Nat) (S : List Nat) (s : Dk.Disk) : Prop := ∃ a b pa pl, DiskR H j a b pa pl s ∧ S = j :: a :: b :: tokP pa
/-- What became of memory: only the places of S were written, new ones were added. -/
structure Step (H : Heap) (S : List Nat) (H' : Heap) (S' : List Nat) : Prop where
  len : H.length ≤ H'.length
  same : ∀ i, i < H.length → i ∉ S → H'[i]? = H[i]?
  new : ∀ x ∈ S', x ∈ S ∨ H.length ≤ x
theorem Step.refl (H : Heap) (S : List Nat) : Step H S H S := ⟨Nat.le_refl _, fun _ _ _ => rfl, fun _ h => .inl h⟩
theorem Step.trans {H H1 H2 : Heap} {S S1 S2 : List Nat} (h : Step H S H1 S1) (h' : Step H1 S1 H2 S2) : Step H S H2 S2 := by
  refine ⟨Nat.le_trans h.len h'.len, fun i hi hS => ?_, fun x hx => ?_⟩
  · rw [h'.same i (Nat.lt_of_lt_of_le hi h.len) (fun hm => by
      rcases h.new i hm with h1 | h1
      · exact hS h1
      · omega)]
    exact h.same i hi hS
  · rcases h'.new x hx with h1 | h1
    · exact h.new x h1
    · exact .inr (Nat.le_trans h.len h1)

theorem copied_w {f : Files} {a : Nat} (ha : H[a]? = some (filesA f)) : WF Tryz.prog cfg 80 [.mp a] H (fun r H' => r = .mp H.length ∧ H' = H ++ [filesA f]) := by
  refine WF.ext (g := fun args H => copiedT H args) rfl (r := .mp H.length) (H' := H ++ [filesA f]) ?_ ⟨rfl, rfl⟩
  show copiedT H [.mp a] = _
  have hk : (keysA f).all strKey = true := by
    apply List.all_eq_true.2
    intro x hx
    obtain ⟨q, _, rfl⟩ := List.mem_map.1 hx
    rfl
  simp only [copiedT, mapOf_files ha, Option.bind_some, hk, if_true, filesA]

theorem crash_w {j : Nat} {S : List Nat} {s : Dk.Disk} (hd : DiskAt H j S s) (hok : Dk.Ok s) (hc : s.calls ≤ 1000000) (keep part : Int) :
    WF Tryz.prog cfg 50 [.ptr j 0, .i keep, .i part] H (fun r H' => r = .tup [] ∧ ∃ S', DiskAt H' j S' (Dk.crash s keep part) ∧ Step H S H' S') := by
  obtain ⟨a, b, pa, pl, hr, rfl⟩ := hd
  obtain ⟨hj, ha, hb, hab, hpend, hplan⟩ := hr
  have hm : ∀ d, cfg.muF 50 d = (false) := fun _ => rfl
  have hz : ∀ d, cfg.fzF 50 d = (false) := fun _ => rfl
  have ht : ∀ d, cfg.tkF 50 d = (false) := fun _ => rfl
  have hr_ : ∀ g, cfg.raw g = (g == 68) := fun _ => rfl
  refine rF_fn rfl rfl Tryz.func50 rfl ?_
  cases hdown : s.down with
  | true =>
    rw [hdown] at hj
    repeat' first | simp (disch := first | omega | assumption | decide) only [go_sem, hm, hz, ht, hr_, hj, wdl, bind_some_, map_some_, oneD_fold] | refine ifP_in (fun _ => ?_) fun _ => ?_
    refine ⟨_, ⟨a, b, pa, pl, ⟨?_, ?_, ?_, hab, ?_, ?_⟩, rfl⟩, Step.refl _ _⟩
    all_goals (unfold Dk.crash; rw [if_pos hdown])
    · rw [hdown]; exact hj
    · exact ha
    · exact hb
    · exact hpend
    · exact hplan
  | false =>
    rw [hdown] at hj
    have hpl := hok.pend
    rcases hpend with ⟨rfl, hpn⟩ | ⟨k, _, rfl, hk, hk0⟩
    · have hjl : j < H.length := (List.getElem?_eq_some_iff.1 hj).1
      have hbl : b < H.length := (List.getElem?_eq_some_iff.1 hb).1
      have hjb : j ≠ b := by rintro rfl; rw [hj] at hb; cases hb
      have hN0 : min (max keep 0) (0 : Int) = 0 := by omega
      have hF : s.dur = Dk.fallen s keep part := by
        unfold Dk.fallen
        rw [hpn]; simp
      have hl0 : s.pend.length = 0 := by rw [hpn]; rfl
      repeat' first | simp (disch := first | omega | assumption | decide) only [go_sem, hm, hz, ht, hr_, hj, hN0, wdl, bind_some_, map_some_, oneD_fold] | refine ifP_in (fun _ => ?_) fun _ => ?_
      refine rL_loop (σ := Nat) (fun i e K => K = H ∧ e 0 = .ptr j 0 ∧ e 6 = .i 0 ∧ e 29 = .i 0 ∧ e 30 = .i 0) (fun i => i) 0 ?_ ?_
      · refine ⟨rfl, ?_, ?_, ?_, ?_⟩
        all_goals first | (simp (disch := first | assumption | omega) only [go_sem, hN0]; done) | (simp (disch := first | assumption | omega) only [go_sem, hN0]; rfl)
      · rintro i e K ⟨hK, g0, g6, g29, g30⟩
        have hK := hK.symm
        subst hK
        repeat' first | simp (disch := first | omega | assumption | decide) only [go_sem, hm, hz, ht, hr_, g0, g6, g29, g30, hj, wdl, bind_some_, map_some_, oneD_fold] | refine ifP_in (fun _ => ?_) fun _ => ?_
        rw [hF] at hb
        generalize hFF : Dk.fallen s keep part = F at *
        refine rF_use (copied_w hb) ?_
        rintro _ K3 ⟨rfl, rfl⟩
        have hjK : j < H.length := by omega
        have kj2 : (H ++ [filesA F])[j]? = some [.i s.room, .mp a, .mp b, nilA, pl, .i s.calls, .b false] := by rw [get_old_ hjK]; exact hj
        have kb2 : (H ++ [filesA F])[b]? = some (filesA F) := by rw [get_old_ (by omega)]; exact hb
        have kn2 : (H ++ [filesA F])[H.length]? = some (filesA F) := get_end_ _
        have kl2 : (H ++ [filesA F]).length = H.length + 1 := by simp
        have ks2 : ∀ x, x < H.length → x ≠ b → (H ++ [filesA F])[x]? = H[x]? := fun x hx hne => by rw [get_old_ (by omega)]
        generalize H ++ [filesA F] = K4 at kj2 kb2 kn2 kl2 ks2 ⊢
        repeat' first | simp (disch := first | omega | assumption | decide) only [go_sem, hm, hz, ht, hr_, g0, g6, g29, g30, kj2, wdl, bind_some_, map_some_, oneD_fold] | refine ifP_in (fun _ => ?_) fun _ => ?_
        simp only [List.set_set]
        have hcr : Dk.crash s keep part = { s with now := F, dur := F, pend := [], down := true } := by unfold Dk.crash; rw [if_neg (by rw [hdown]; simp), hFF]
        rw [hcr]
        refine ⟨_, ⟨H.length, b, nilA, pl, ⟨get_set (by omega), ?_, ?_, by omega, TokOf.nil, hplan⟩, rfl⟩, ⟨by first | (simp; done) | (simp; omega), fun x hx hS => ?_, fun x hx => ?_⟩⟩
        · rw [get_set_ne_ (by omega)]; exact kn2
        · rw [get_set_ne_ hjb]; exact kb2
        · simp only [List.mem_cons, not_or] at hS
          rw [get_set_ne_ (fun h => hS.1 h.symm)]
          exact ks2 x hx hS.2.2.1
        · simp only [tokP_nil, List.mem_cons, List.not_mem_nil, or_false] at hx
          rcases hx with rfl | rfl | rfl
          · exact .inl (by simp)
          · exact .inr (Nat.le_refl _)
          · exact .inl (by simp)
    · have hkl : k < H.length := (List.getElem?_eq_some_iff.1 hk).1
      have hjl : j < H.length := (List.getElem?_eq_some_iff.1 hj).1
      have hbl : b < H.length := (List.getElem?_eq_some_iff.1 hb).1
      have hjb : j ≠ b := by rintro rfl; rw [hj] at hb; cases hb
      have hkb : k ≠ b := by rintro rfl; rw [hk] at hb; cases hb
      have hjk : j ≠ k := by rintro rfl; rw [hj] at hk; cases hk
      have hja : j ≠ a := by rintro rfl; rw [hj] at ha; cases ha
      obtain ⟨N, hNk⟩ : ∃ N, N = Dk.kept s keep := ⟨_, rfl⟩
      have hN : min (max keep 0) (s.pend.length : Int) = (N : Int) := by rw [hNk]; unfold Dk.kept; omega
      have hNl : N ≤ s.pend.length := by omega
      have hlN : (s.pend.take N).length = N := by rw [List.length_take]; omega
      repeat' first | simp (disch := first | omega | assumption | decide) only [go_sem, hm, hz, ht, hr_, hj, hN, wdl, bind_some_, map_some_, oneD_fold] | refine ifP_in (fun _ => ?_) fun _ => ?_
      refine rL_loop (σ := Nat) (fun i e K => e 0 = .ptr j 0 ∧ e 2 = .i part ∧ e 6 = .i N ∧ e 28 = .sl ((s.pend.take N).map chA) ∧ e 29 = .i N ∧ e 30 = .i i ∧ i ≤ N ∧ H.length ≤ K.length ∧ (∀ x, x < H.length → x ≠ b → K[x]? = H[x]?) ∧ K[b]? = some (filesA ((s.pend.take i).foldl Dk.make s.dur))) (fun i => N - i) 0 ?_ ?_
      · refine ⟨?_, ?_, ?_, ?_, ?_, ?_, by omega, Nat.le_refl _, fun _ _ _ => rfl, hb⟩
        all_goals first | (simp (disch := first | assumption | omega) only [go_sem, hN, hlN]; done) | (simp (disch := first | assumption | omega) only [go_sem, hN, hlN]; rfl)
      · rintro i e K ⟨g0, g2, g6, g28, g29, g30, i1, i2, i3, i4⟩
        have kj := i3 j hjl hjb
        rw [hj] at kj
        by_cases hiN : i < N
        · have hip : i < s.pend.length := by omega
          have hix : ix (s.pend.take N) (i : Int) = s.pend[i] := by
            simp [ix, List.getD_eq_getElem?_getD, List.getElem?_take, hiN, List.getElem?_eq_getElem hip]
          have hfold := Dk.fold_snoc s i hip
          have hsz := hok.size i
          have hsz2 := hok.data_len i hip
          unfold Dk.Len at hsz hsz2
          repeat' first | simp (disch := first | omega | assumption | decide) only [go_sem, hm, hz, ht, hr_, g0, g2, g6, g28, g29, g30, kj, cells_chA, hix, oneD_chD, wdl, bind_some_, map_some_, oneD_fold] | refine ifP_in (fun _ => ?_) fun _ => ?_
          have hKl : K.length < (K ++ [[AV.str [], AV.str [], nilA, AV.v (Value.bool false), AV.v (Value.bool false)]]).length := by simp
          have k1 : ((K ++ [[AV.str [], AV.str [], nilA, AV.v (Value.bool false), AV.v (Value.bool false)]]).set K.length [AV.str s.pend[i].name, AV.str s.pend[i].frm, chD s.pend[i], AV.b s.pend[i].puts, AV.b s.pend[i].behind])[K.length]? = some [AV.str s.pend[i].name, AV.str s.pend[i].frm, chD s.pend[i], AV.b s.pend[i].puts, AV.b s.pend[i].behind] := get_set hKl
          have k2 : ∀ x, x < K.length → ((K ++ [[AV.str [], AV.str [], nilA, AV.v (Value.bool false), AV.v (Value.bool false)]]).set K.length [AV.str s.pend[i].name, AV.str s.pend[i].frm, chD s.pend[i], AV.b s.pend[i].puts, AV.b s.pend[i].behind])[x]? = K[x]? := fun x hx => by rw [get_set_ne_ (by omega), get_old_ hx]
          have k3 : ((K ++ [[AV.str [], AV.str [], nilA, AV.v (Value.bool false), AV.v (Value.bool false)]]).set K.length [AV.str s.pend[i].name, AV.str s.pend[i].frm, chD s.pend[i], AV.b s.pend[i].puts, AV.b s.pend[i].behind]).length = K.length + 1 := by simp
          generalize (K ++ [[AV.str [], AV.str [], nilA, AV.v (Value.bool false), AV.v (Value.bool false)]]).set K.length [AV.str s.pend[i].name, AV.str s.pend[i].frm, chD s.pend[i], AV.b s.pend[i].puts, AV.b s.pend[i].behind] = K0 at k1 k2 k3 ⊢
          refine rF_use (make_w ((s.pend.take i).foldl Dk.make s.dur) s.pend[i] (a := b) ?_ ?_) ?_
          · rw [k2 b (by omega)]; exact i4
          · omega
          rintro _ K1 ⟨rfl, rfl⟩
          have k4 : ((K0 ++ [(chA s.pend[i]).cells]).set b (filesA (Dk.make ((s.pend.take i).foldl Dk.make s.dur) s.pend[i])))[K.length]? = some [AV.str s.pend[i].name, AV.str s.pend[i].frm, chD s.pend[i], AV.b s.pend[i].puts, AV.b s.pend[i].behind] := by rw [get_set_ne_ (by omega), get_old_ (by omega)]; exact k1
          have k5 : ∀ x, x < H.length → x ≠ b → ((K0 ++ [(chA s.pend[i]).cells]).set b (filesA (Dk.make ((s.pend.take i).foldl Dk.make s.dur) s.pend[i])))[x]? = H[x]? := fun x hx hne => by rw [get_set_ne_ (by omega), get_old_ (by omega), k2 x (by omega)]; exact i3 x hx hne
          have k6 : ((K0 ++ [(chA s.pend[i]).cells]).set b (filesA (Dk.make ((s.pend.take i).foldl Dk.make s.dur) s.pend[i])))[b]? = some (filesA ((s.pend.take (i + 1)).foldl Dk.make s.dur)) := by rw [hfold]; exact get_set (by simp; omega)
          have k7 : K.length ≤ ((K0 ++ [(chA s.pend[i]).cells]).set b (filesA (Dk.make ((s.pend.take i).foldl Dk.make s.dur) s.pend[i]))).length := by simp; omega
          have k8 := k5 j hjl hjb
          rw [hj] at k8
          generalize (K0 ++ [(chA s.pend[i]).cells]).set b (filesA (Dk.make ((s.pend.take i).foldl Dk.make s.dur) s.pend[i])) = K2 at k4 k5 k6 k7 k8 ⊢
          repeat' first | simp (disch := first | omega | assumption | decide) only [go_sem, hm, hz, ht, hr_, g0, g2, g6, g28, g29, g30, k4, k8, cells_chA, hix, oneD_chD, wdl, bind_some_, map_some_, oneD_fold] | refine ifP_in (fun _ => ?_) fun _ => ?_
          refine ⟨i + 1, ⟨rfl, by omega, by omega, k5, k6⟩, by omega⟩
        · have hiN : i = N := by omega
          subst hiN
          repeat' first | simp (disch := first | omega | assumption | decide) only [go_sem, hm, hz, ht, hr_, g0, g2, g6, g28, g29, g30, kj, cells_chA, wdl, bind_some_, map_some_, oneD_fold] | refine ifP_in (fun _ => ?_) fun _ => ?_
          · have hip : i < s.pend.length := by omega
            have hix2 : ix s.pend (i : Int) = s.pend[i] := by simp [ix, List.getD_eq_getElem?_getD, List.getElem?_eq_getElem hip]
            rw [hix2]
            refine rF_use (torn_w s.pend[i] part) ?_
            rintro _ K1 ⟨rfl, hp1⟩
            have hpl1 := pre_len hp1
            have kj1 : K1[j]? = some [.i s.room, .mp a, .mp b, .ow (s.pend.map chA) k, pl, .i s.calls, .b false] := pre_get hp1 kj
            have kb1 := pre_get hp1 i4
            have ks1 : ∀ x, x < H.length → x ≠ b → K1[x]? = H[x]? := fun x hx hne => by
              have := i3 x hx hne
              rw [List.getElem?_eq_getElem hx] at this ⊢
              exact pre_get hp1 this
            cases htn : Dk.torn s.pend[i] part with
            | none =>
              simp only
              have hF : (s.pend.take i).foldl Dk.make s.dur = Dk.fallen s keep part := by
                unfold Dk.fallen
                rw [← hNk, List.getElem?_eq_getElem hip]
                simp only [htn]
              rw [hF] at kb1
              generalize hFF : Dk.fallen s keep part = F at *
              have kj9 := kj1
              have kK : K.length ≤ K1.length := hpl1
              repeat' first | simp (disch := first | omega | assumption | decide) only [go_sem, hm, hz, ht, hr_, g0, g2, g6, g28, g29, g30, kj1, oneD_chD, chA_eq, wdl, bind_some_, map_some_, oneD_fold] | refine ifP_in (fun _ => ?_) fun _ => ?_
              have n4 : ((K1 ++ [[AV.str [], AV.str [], nilA, AV.v (Value.bool false), AV.v (Value.bool false)]]).set K1.length [AV.str s.pend[i].name, AV.str s.pend[i].frm, chD s.pend[i], AV.b s.pend[i].puts, AV.b s.pend[i].behind])[b]? = some (filesA F) := by rw [get_set_ne_ (by omega), get_old_ (by omega)]; exact kb1
              have nj : ((K1 ++ [[AV.str [], AV.str [], nilA, AV.v (Value.bool false), AV.v (Value.bool false)]]).set K1.length [AV.str s.pend[i].name, AV.str s.pend[i].frm, chD s.pend[i], AV.b s.pend[i].puts, AV.b s.pend[i].behind])[j]? = some [.i s.room, .mp a, .mp b, .ow (s.pend.map chA) k, pl, .i s.calls, .b false] := by rw [get_set_ne_ (by omega), get_old_ (by omega)]; exact kj1
              have n2 : H.length ≤ ((K1 ++ [[AV.str [], AV.str [], nilA, AV.v (Value.bool false), AV.v (Value.bool false)]]).set K1.length [AV.str s.pend[i].name, AV.str s.pend[i].frm, chD s.pend[i], AV.b s.pend[i].puts, AV.b s.pend[i].behind]).length := by simp; omega
              have n3 : ∀ x, x < H.length → x ≠ b → ((K1 ++ [[AV.str [], AV.str [], nilA, AV.v (Value.bool false), AV.v (Value.bool false)]]).set K1.length [AV.str s.pend[i].name, AV.str s.pend[i].frm, chD s.pend[i], AV.b s.pend[i].puts, AV.b s.pend[i].behind])[x]? = H[x]? := fun x hx hne => by rw [get_set_ne_ (by omega), get_old_ (by omega)]; exact ks1 x hx hne
              generalize (K1 ++ [[AV.str [], AV.str [], nilA, AV.v (Value.bool false), AV.v (Value.bool false)]]).set K1.length [AV.str s.pend[i].name, AV.str s.pend[i].frm, chD s.pend[i], AV.b s.pend[i].puts, AV.b s.pend[i].behind] = K9 at n4 nj n2 n3 ⊢
              refine rF_use (copied_w n4) ?_
              rintro _ K3 ⟨rfl, rfl⟩
              have hjK : j < K9.length := by omega
              have kj2 : (K9 ++ [filesA F])[j]? = some [.i s.room, .mp a, .mp b, .ow (s.pend.map chA) k, pl, .i s.calls, .b false] := by rw [get_old_ hjK]; exact nj
              have kb2 : (K9 ++ [filesA F])[b]? = some (filesA F) := by rw [get_old_ (by omega)]; exact n4
              have kn2 : (K9 ++ [filesA F])[K9.length]? = some (filesA F) := get_end_ _
              have kl2 : (K9 ++ [filesA F]).length = K9.length + 1 := by simp
              have ks2 : ∀ x, x < H.length → x ≠ b → (K9 ++ [filesA F])[x]? = H[x]? := fun x hx hne => by rw [get_old_ (by omega)]; exact n3 x hx hne
              generalize K9 ++ [filesA F] = K4 at kj2 kb2 kn2 kl2 ks2 ⊢
              repeat' first | simp (disch := first | omega | assumption | decide) only [go_sem, hm, hz, ht, hr_, g0, g2, g6, g28, g29, g30, kj2, wdl, bind_some_, map_some_, oneD_fold] | refine ifP_in (fun _ => ?_) fun _ => ?_
              simp only [List.set_set]
              have hcr : Dk.crash s keep part = { s with now := F, dur := F, pend := [], down := true } := by unfold Dk.crash; rw [if_neg (by rw [hdown]; simp), hFF]
              rw [hcr]
              refine ⟨_, ⟨K9.length, b, nilA, pl, ⟨get_set (by omega), ?_, ?_, by omega, TokOf.nil, hplan⟩, rfl⟩, ⟨by simp; omega, fun x hx hS => ?_, fun x hx => ?_⟩⟩
              · rw [get_set_ne_ (by omega)]; exact kn2
              · rw [get_set_ne_ hjb]; exact kb2
              · simp only [List.mem_cons, not_or] at hS
                rw [get_set_ne_ (fun h => hS.1 h.symm)]
                exact ks2 x hx hS.2.2.1
              · simp only [tokP_nil, List.mem_cons, List.not_mem_nil, or_false] at hx
                rcases hx with rfl | rfl | rfl
                · exact .inl (by simp)
                · exact .inr n2
                · exact .inl (by simp)
            | some c' =>
              simp only
              have hF : Dk.make ((s.pend.take i).foldl Dk.make s.dur) c' = Dk.fallen s keep part := by
                unfold Dk.fallen
                rw [← hNk, List.getElem?_eq_getElem hip]
                simp only [htn]
              have hsz := hok.size i
              have hsz2 := hok.data_len i hip
              have hcd : c'.data.length ≤ (s.pend[i]).data.length := by
                unfold Dk.torn at htn
                split at htn
                · cases htn
                · injection htn with htn; subst htn; simp; omega
              unfold Dk.Len at hsz hsz2
              repeat' first | simp (disch := first | omega | assumption | decide) only [go_sem, hm, hz, ht, hr_, g0, g2, g6, g28, g29, g30, kj1, oneD_chD, chA_eq, wdl, bind_some_, map_some_, oneD_fold] | refine ifP_in (fun _ => ?_) fun _ => ?_
              have m4 : ((K1 ++ [[AV.str [], AV.str [], nilA, AV.v (Value.bool false), AV.v (Value.bool false)]]).set K1.length [AV.str c'.name, AV.str c'.frm, chD c', AV.b c'.puts, AV.b c'.behind])[b]? = some (filesA ((s.pend.take i).foldl Dk.make s.dur)) := by rw [get_set_ne_ (by omega), get_old_ (by omega)]; exact kb1
              have mj : ((K1 ++ [[AV.str [], AV.str [], nilA, AV.v (Value.bool false), AV.v (Value.bool false)]]).set K1.length [AV.str c'.name, AV.str c'.frm, chD c', AV.b c'.puts, AV.b c'.behind])[j]? = some [.i s.room, .mp a, .mp b, .ow (s.pend.map chA) k, pl, .i s.calls, .b false] := by rw [get_set_ne_ (by omega), get_old_ (by omega)]; exact kj1
              have m2 : ((K1 ++ [[AV.str [], AV.str [], nilA, AV.v (Value.bool false), AV.v (Value.bool false)]]).set K1.length [AV.str c'.name, AV.str c'.frm, chD c', AV.b c'.puts, AV.b c'.behind]).length = K1.length + 1 := by simp
              have m3 : ∀ x, x < H.length → x ≠ b → ((K1 ++ [[AV.str [], AV.str [], nilA, AV.v (Value.bool false), AV.v (Value.bool false)]]).set K1.length [AV.str c'.name, AV.str c'.frm, chD c', AV.b c'.puts, AV.b c'.behind])[x]? = H[x]? := fun x hx hne => by rw [get_set_ne_ (by omega), get_old_ (by omega)]; exact ks1 x hx hne
              have m1 : ((K1 ++ [[AV.str [], AV.str [], nilA, AV.v (Value.bool false), AV.v (Value.bool false)]]).set K1.length [AV.str c'.name, AV.str c'.frm, chD c', AV.b c'.puts, AV.b c'.behind])[K1.length]? = some [AV.str c'.name, AV.str c'.frm, chD c', AV.b c'.puts, AV.b c'.behind] := get_set (by simp)
              generalize (K1 ++ [[AV.str [], AV.str [], nilA, AV.v (Value.bool false), AV.v (Value.bool false)]]).set K1.length [AV.str c'.name, AV.str c'.frm, chD c', AV.b c'.puts, AV.b c'.behind] = K5 at m4 mj m2 m3 m1 ⊢
              refine rF_use (make_w ((s.pend.take i).foldl Dk.make s.dur) c' (a := b) m4 (by omega)) ?_
              rintro _ K6 ⟨rfl, rfl⟩
              rw [hF]
              generalize hFF : Dk.fallen s keep part = F at *
              have n4 : ((K5 ++ [(chA c').cells]).set b (filesA F))[b]? = some (filesA F) := get_set (by simp; omega)
              have nj : ((K5 ++ [(chA c').cells]).set b (filesA F))[j]? = some [.i s.room, .mp a, .mp b, .ow (s.pend.map chA) k, pl, .i s.calls, .b false] := by rw [get_set_ne_ (by omega), get_old_ (by omega)]; exact mj
              have n2 : H.length ≤ ((K5 ++ [(chA c').cells]).set b (filesA F)).length := by simp; omega
              have n3 : ∀ x, x < H.length → x ≠ b → ((K5 ++ [(chA c').cells]).set b (filesA F))[x]? = H[x]? := fun x hx hne => by rw [get_set_ne_ (by omega), get_old_ (by omega)]; exact m3 x hx hne
              have n1 : ((K5 ++ [(chA c').cells]).set b (filesA F))[K1.length]? = some [AV.str c'.name, AV.str c'.frm, chD c', AV.b c'.puts, AV.b c'.behind] := by rw [get_set_ne_ (by omega), get_old_ (by omega)]; exact m1
              generalize (K5 ++ [(chA c').cells]).set b (filesA F) = K9 at n4 nj n2 n3 n1 ⊢
              repeat' first | simp (disch := first | omega | assumption | decide) only [go_sem, hm, hz, ht, hr_, g0, g2, g6, g28, g29, g30, nj, n1, oneD_chD, chA_eq, wdl, bind_some_, map_some_, oneD_fold] | refine ifP_in (fun _ => ?_) fun _ => ?_
              refine rF_use (copied_w n4) ?_
              rintro _ K3 ⟨rfl, rfl⟩
              have hjK : j < K9.length := by omega
              have kj2 : (K9 ++ [filesA F])[j]? = some [.i s.room, .mp a, .mp b, .ow (s.pend.map chA) k, pl, .i s.calls, .b false] := by rw [get_old_ hjK]; exact nj
              have kb2 : (K9 ++ [filesA F])[b]? = some (filesA F) := by rw [get_old_ (by omega)]; exact n4
              have kn2 : (K9 ++ [filesA F])[K9.length]? = some (filesA F) := get_end_ _
              have kl2 : (K9 ++ [filesA F]).length = K9.length + 1 := by simp
              have ks2 : ∀ x, x < H.length → x ≠ b → (K9 ++ [filesA F])[x]? = H[x]? := fun x hx hne => by rw [get_old_ (by omega)]; exact n3 x hx hne
              generalize K9 ++ [filesA F] = K4 at kj2 kb2 kn2 kl2 ks2 ⊢
              repeat' first | simp (disch := first | omega | assumption | decide) only [go_sem, hm, hz, ht, hr_, g0, g2, g6, g28, g29, g30, kj2, wdl, bind_some_, map_some_, oneD_fold] | refine ifP_in (fun _ => ?_) fun _ => ?_
              simp only [List.set_set]
              have hcr : Dk.crash s keep part = { s with now := F, dur := F, pend := [], down := true } := by unfold Dk.crash; rw [if_neg (by rw [hdown]; simp), hFF]
              rw [hcr]
              refine ⟨_, ⟨K9.length, b, nilA, pl, ⟨get_set (by omega), ?_, ?_, by omega, TokOf.nil, hplan⟩, rfl⟩, ⟨by simp; omega, fun x hx hS => ?_, fun x hx => ?_⟩⟩
              · rw [get_set_ne_ (by omega)]; exact kn2
              · rw [get_set_ne_ hjb]; exact kb2
              · simp only [List.mem_cons, not_or] at hS
                rw [get_set_ne_ (fun h => hS.1 h.symm)]
                exact ks2 x hx hS.2.2.1
              · simp only [tokP_nil, List.mem_cons, List.not_mem_nil, or_false] at hx
                rcases hx with rfl | rfl | rfl
                · exact .inl (by simp)
                · exact .inr n2
                · exact .inl (by simp)
          · have hF : (s.pend.take i).foldl Dk.make s.dur = Dk.fallen s keep part := by
              unfold Dk.fallen
              rw [← hNk, List.getElem?_eq_none (by omega)]
            rw [hF] at i4
            generalize hFF : Dk.fallen s keep part = F at *
            refine rF_use (copied_w i4) ?_
            rintro _ K3 ⟨rfl, rfl⟩
            have hjK : j < K.length := by omega
            have kj2 : (K ++ [filesA F])[j]? = some [.i s.room, .mp a, .mp b, .ow (s.pend.map chA) k, pl, .i s.calls, .b false] := by rw [get_old_ hjK]; exact kj
            have kb2 : (K ++ [filesA F])[b]? = some (filesA F) := by rw [get_old_ (by omega)]; exact i4
            have kn2 : (K ++ [filesA F])[K.length]? = some (filesA F) := get_end_ _
            have kl2 : (K ++ [filesA F]).length = K.length + 1 := by simp
            have ks2 : ∀ x, x < H.length → x ≠ b → (K ++ [filesA F])[x]? = H[x]? := fun x hx hne => by rw [get_old_ (by omega)]; exact i3 x hx hne
            generalize K ++ [filesA F] = K4 at kj2 kb2 kn2 kl2 ks2 ⊢
            repeat' first | simp (disch := first | omega | assumption | decide) only [go_sem, hm, hz, ht, hr_, g0, g2, g6, g28, g29, g30, kj2, wdl, bind_some_, map_some_, oneD_fold] | refine ifP_in (fun _ => ?_) fun _ => ?_
            simp only [List.set_set]
            have hcr : Dk.crash s keep part = { s with now := F, dur := F, pend := [], down := true } := by unfold Dk.crash; rw [if_neg (by rw [hdown]; simp), hFF]
            rw [hcr]
            refine ⟨_, ⟨K.length, b, nilA, pl, ⟨get_set (by omega), ?_, ?_, by omega, TokOf.nil, hplan⟩, rfl⟩, ⟨by simp; omega, fun x hx hS => ?_, fun x hx => ?_⟩⟩
            · rw [get_set_ne_ (by omega)]; exact kn2
            · rw [get_set_ne_ hjb]; exact kb2
            · simp only [List.mem_cons, not_or] at hS
              rw [get_set_ne_ (fun h => hS.1 h.symm)]
              exact ks2 x hx hS.2.2.1
            · simp only [tokP_nil, List.mem_cons, List.not_mem_nil, or_false] at hx
              rcases hx with rfl | rfl | rfl
              · exact .inl (by simp)
              · exact .inr i2
              · exact .inl (by simp)
end Jn
end Go.Proofs
/- Walks: names of files. -/
set_option linter.unusedVariables false
set_option linter.unusedSimpArgs false
namespace Go.Proofs
open Go.Lv
namespace Jn
open Dk (Files Bs Ch Ev)
variable {H : Heap}

theorem name_w (s : Bs) (hs : s.length ≤ 140737488355328) : WF Tryz.prog cfg 90 [.str s] H (fun r H' => r = .b (Dk.nameOk s) ∧ H' = H) := by
  have hm : ∀ d, cfg.muF 90 d = (false) := fun _ => rfl
  have hz : ∀ d, cfg.fzF 90 d = (false) := fun _ => rfl
  have ht : ∀ d, cfg.tkF 90 d = (false) := fun _ => rfl
  have hr_ : ∀ g, cfg.raw g = (g == 68) := fun _ => rfl
  refine rF_fn rfl rfl Tryz.func90 rfl ?_
  repeat' first | simp (disch := first | omega | assumption | decide) only [go_sem, hm, hz, ht, hr_] | refine ifP_in (fun _ => ?_) fun _ => ?_
  refine rL_loop (σ := Nat) (fun i e K => K = H ∧ e 0 = .str s ∧ e 6 = .i s.length ∧ e 7 = .i i ∧ i ≤ s.length ∧ (s.take i).all Dk.okc = true) (fun i => s.length - i) 0 ?_ ?_
  · refine ⟨rfl, ?_, ?_, ?_, by omega, rfl⟩
    all_goals first | (simp (disch := first | assumption | omega) only [go_sem]; done) | (simp (disch := first | assumption | omega) only [go_sem]; rfl)
  · rintro i e K ⟨hK, g0, g6, g7, i1, i2⟩
    have hK := hK.symm
    subst hK
    by_cases hil : i < s.length
    · have hix : ix s (i : Int) = s[i] := by simp [ix, List.getD_eq_getElem?_getD, List.getElem?_eq_getElem hil]
      have hsnoc : (s.take (i + 1)).all Dk.okc = ((s.take i).all Dk.okc && Dk.okc s[i]) := by rw [List.take_succ_eq_append_getElem hil, List.all_append]; simp
      have hbad : Dk.okc s[i] = false → Dk.nameOk s = false := by
        intro h
        unfold Dk.nameOk
        have : s.all Dk.okc = false := by
          rw [List.all_eq_false]
          exact ⟨s[i], List.getElem_mem hil, by simp [h]⟩
        simp [this]
      have hgood : Dk.okc s[i] = true → (s.take (i + 1)).all Dk.okc = true := by intro h; rw [hsnoc, i2, h]; rfl
      have hokc : Dk.okc s[i] = ((decide (97 ≤ s[i].toNat) && decide (s[i].toNat ≤ 122)) || (decide (65 ≤ s[i].toNat) && decide (s[i].toNat ≤ 90)) || (decide (48 ≤ s[i].toNat) && decide (s[i].toNat ≤ 57)) || decide (s[i].toNat = 46) || decide (s[i].toNat = 45) || decide (s[i].toNat = 95)) := rfl
      generalize s[i] = c at *
      repeat' first | simp (disch := first | omega | assumption | decide) only [go_sem, hm, hz, ht, hr_, g0, g6, g7, hix] | refine ifP_in (fun _ => ?_) fun _ => ?_
      all_goals first
        | (have hk : Dk.okc c = true := by rw [hokc]; simp; omega
           exact ⟨i + 1, ⟨rfl, by omega, hgood hk⟩, by omega⟩)
        | (have hk : Dk.okc c = false := by rw [hokc]; simp; omega
           rw [hbad hk])
    · have : i = s.length := by omega
      subst this
      rw [List.take_length] at i2
      repeat' first | simp (disch := first | omega | assumption | decide) only [go_sem, hm, hz, ht, hr_, g0, g6, g7] | refine ifP_in (fun _ => ?_) fun _ => ?_
      · have : Dk.nameOk s = decide ((s.length : Int) ≤ 64) := by
          unfold Dk.nameOk
          rw [i2, decide_eq_true (by assumption)]
          simp
          omega
        rw [this]
      · have : Dk.nameOk s = false := by
          unfold Dk.nameOk
          rw [decide_eq_false (by assumption)]
          simp
        rw [this]

theorem DiskAt.same {H' : Heap} {j : Nat} {S : List Nat} {s : Dk.Disk} (h : DiskAt H j S s) (he : ∀ x ∈ S, H'[x]? = H[x]?) : DiskAt H' j S s := by
  obtain ⟨a, b, pa, pl, hr, rfl⟩ := h
  refine ⟨a, b, pa, pl, ⟨?_, ?_, ?_, hr.ab, ?_, hr.plan⟩, rfl⟩
  · rw [he j (by simp)]; exact hr.hj
  · rw [he a (by simp)]; exact hr.ha
  · rw [he b (by simp)]; exact hr.hb
  · rcases hr.pend with h | ⟨k, h1, rfl, h3, h4⟩
    · exact .inl h
    · exact .inr ⟨k, h1, rfl, by rw [he k (by simp [tokP])]; exact h3, h4⟩
theorem DiskAt.lt {j : Nat} {S : List Nat} {s : Dk.Disk} (h : DiskAt H j S s) : ∀ x ∈ S, x < H.length := by
  obtain ⟨a, b, pa, pl, hr, rfl⟩ := h
  intro x hx
  simp only [List.mem_cons] at hx
  rcases hx with rfl | rfl | rfl | hx
  · exact (List.getElem?_eq_some_iff.1 hr.hj).1
  · exact (List.getElem?_eq_some_iff.1 hr.ha).1
  · exact (List.getElem?_eq_some_iff.1 hr.hb).1
  · rcases hr.pend with ⟨rfl, _⟩ | ⟨k, h1, rfl, h3, h4⟩
    · rw [tokP_nil] at hx; simp at hx
    · simp only [tokP, List.mem_singleton] at hx
      subst hx
      exact (List.getElem?_eq_some_iff.1 h3).1
/-- Memory that only grew. -/
theorem DiskAt.grew {H' : Heap} {j : Nat} {S : List Nat} {s : Dk.Disk} (h : DiskAt H j S s) (he : ∀ x, x < H.length → H'[x]? = H[x]?) : DiskAt H' j S s := h.same fun x hx => he x (h.lt x hx)
theorem Step.grew {H H' : Heap} {S : List Nat} (hl : H.length ≤ H'.length) (he : ∀ x, x < H.length → H'[x]? = H[x]?) : Step H S H' S := ⟨hl, fun i hi _ => he i hi, fun _ h => .inl h⟩
theorem PlanOf.len {a : AV} {l : List Ev} (h : PlanOf a l) {el : TypeId} : lenD (some (.slice el)) (owA a) = some (.v (.int .i64 l.length)) := by
  rcases h with ⟨rfl, rfl⟩ | ⟨rfl, rfl⟩ | ⟨_, k, rfl⟩
  · rfl
  · rfl
  · simp [owA, lenD]
theorem PlanOf.at_ {a : AV} {l : List Ev} (h : PlanOf a l) {i : Nat} (hi : i < l.length) : indexAddrD Tryz.prog (some (.slice 57)) (owA a) (.i i) = some (.ea (evA l[i]) 0) := by
  rcases h with ⟨_, rfl⟩ | ⟨_, rfl⟩ | ⟨_, k, rfl⟩
  · simp at hi
  · simp at hi
  · have e := indexAddrD_map (P := Tryz.prog) (k := .i64) (f := evA) (xs := l) (el := 57) (i := (i : Int)) (by omega) (by omega)
    show indexAddrD Tryz.prog (some (.slice 57)) (.sl (l.map evA)) (.i i) = _
    rw [e, size_is (P := Tryz.prog) (t := 57)]
    have hix : ix l (i : Int) = l[i] := by simp [Go.Lv.ix, List.getD_eq_getElem?_getD, List.getElem?_eq_getElem hi]
    rw [hix]; rfl

/-- The fields of the disk as they stand. -/
theorem DiskAt.cells {j : Nat} {S : List Nat} {s : Dk.Disk} (h : DiskAt H j S s) : ∃ a b pa pl, H[j]? = some [.i s.room, .mp a, .mp b, pa, pl, .i s.calls, .b s.down] := by
  obtain ⟨a, b, pa, pl, hr, rfl⟩ := h
  exact ⟨a, b, pa, pl, hr.hj⟩

theorem call_w {j : Nat} {S : List Nat} {s : Dk.Disk} (hd : DiskAt H j S s) (hok : Dk.Ok s) (hc : s.calls < 1000000) (hpl : s.plan.length < 1000000) (names : List Bs) (hn : names.length < 1000000) (hns : ∀ n ∈ names, n.length ≤ 140737488355328) :
    WF Tryz.prog cfg 69 [.ptr j 0, .sl (names.map AV.str)] H (fun r H' => r = .tup [.b (Dk.call s names).2.1, .i (Dk.call s names).2.2] ∧ ∃ S', DiskAt H' j S' (Dk.call s names).1 ∧ Step H S H' S') := by
  have hlt := hd.lt
  obtain ⟨a, b, pa, pl, hr, rfl⟩ := hd
  have hok1 := hok.more
  have hc0 := hok.calls
  have hjl := hlt j (by simp)
  have hd1 : DiskAt (H.set j [.i s.room, .mp a, .mp b, pa, pl, .i (s.calls + 1), .b s.down]) j (j :: a :: b :: tokP pa) { s with calls := s.calls + 1 } := by
    have hja : j ≠ a := by rintro rfl; have h1 := hr.hj; rw [hr.ha] at h1; cases h1
    have hjb : j ≠ b := by rintro rfl; have h1 := hr.hj; rw [hr.hb] at h1; cases h1
    refine ⟨a, b, pa, pl, ⟨get_set hjl, ?_, ?_, hr.ab, ?_, hr.plan⟩, rfl⟩
    · rw [get_set_ne_ hja]; exact hr.ha
    · rw [get_set_ne_ hjb]; exact hr.hb
    · rcases hr.pend with h | ⟨k, h1, rfl, h3, h4⟩
      · exact .inl h
      · have hjk : j ≠ k := by rintro rfl; have h1 := hr.hj; rw [h3] at h1; cases h1
        exact .inr ⟨k, h1, rfl, by rw [get_set_ne_ hjk]; exact h3, h4⟩
  have hs1 : Step H (j :: a :: b :: tokP pa) (H.set j [.i s.room, .mp a, .mp b, pa, pl, .i (s.calls + 1), .b s.down]) (j :: a :: b :: tokP pa) := ⟨by simp, fun i hi hS => by rw [get_set_ne_ (fun h => hS (by simp [h]))], fun x hx => .inl hx⟩
  have hj := hr.hj
  have hplan := hr.plan
  have hm : ∀ d, cfg.muF 69 d = (false) := fun _ => rfl
  have hz : ∀ d, cfg.fzF 69 d = (false) := fun _ => rfl
  have ht : ∀ d, cfg.tkF 69 d = (false) := fun _ => rfl
  have hr_ : ∀ g, cfg.raw g = (g == 68) := fun _ => rfl
  refine rF_fn rfl rfl Tryz.func69 rfl ?_
  have hjj : (H.set j [.i s.room, .mp a, .mp b, pa, pl, .i (s.calls + 1), .b s.down])[j]? = some [.i s.room, .mp a, .mp b, pa, pl, .i (s.calls + 1), .b s.down] := get_set hjl
  have hln := fun el => hplan.len (el := el)
  generalize hS : (j :: a :: b :: tokP pa) = S at *
  generalize hH1 : H.set j [.i s.room, .mp a, .mp b, pa, pl, .i (s.calls + 1), .b s.down] = H1 at *
  repeat' first | simp (disch := first | omega | assumption | decide) only [go_sem, hm, hz, ht, hr_, hj, hjj, hH1, hln, wdl, bind_some_, map_some_, oneD_fold] | refine ifP_in (fun _ => ?_) fun _ => ?_
  obtain ⟨st, hst⟩ : ∃ st : Nat → Dk.Disk × Bool × Bool, st = fun i => (s.plan.take i).foldl Dk.evStep ({ s with calls := s.calls + 1 }, false, false) := ⟨_, rfl⟩
  have st0 : st 0 = ({ s with calls := s.calls + 1 }, false, false) := by rw [hst]; rfl
  have stS : ∀ i, (hi : i < s.plan.length) → st (i + 1) = Dk.evStep (st i) s.plan[i] := fun i hi => by rw [hst]; simp only; rw [List.take_succ_eq_append_getElem hi, List.foldl_append]; rfl
  have stE : st s.plan.length = Dk.events s := by rw [hst]; simp only [List.take_length]; rfl
  have stc : ∀ i, i ≤ s.plan.length → Dk.Ok (st i).1 ∧ (st i).1.calls = s.calls + 1 := by
    intro i
    induction i with
    | zero => intro _; rw [st0]; exact ⟨hok1, rfl⟩
    | succ i ih =>
      intro hi
      obtain ⟨h1, h2⟩ := ih (by omega)
      rw [stS i (by omega)]
      exact ⟨h1.evStep _, (Dk.evStep_calls _ _).1.trans h2⟩
  refine rL_loop (σ := Nat) (fun i e K => e 0 = .ptr j 0 ∧ e 1 = .sl (names.map AV.str) ∧ e 6 = .b (st i).2.1 ∧ e 7 = .b (st i).2.2 ∧ e 22 = pl ∧ e 23 = .i s.plan.length ∧ e 24 = .i i ∧ i ≤ s.plan.length ∧ ∃ S', DiskAt K j S' (st i).1 ∧ Step H S K S') (fun i => s.plan.length - i) 0 ?_ ?_
  · refine ⟨?_, ?_, ?_, ?_, ?_, ?_, ?_, by omega, S, by rw [st0]; exact hd1, hs1⟩
    all_goals first | (simp (disch := first | assumption | omega) only [go_sem, st0]; done) | (simp (disch := first | assumption | omega) only [go_sem, st0]; rfl)
  · rintro i e K ⟨g0, g1, g6, g7, g22, g23, g24, i1, S', hdk, hsk⟩
    obtain ⟨a', b', pa', pl', kj⟩ := hdk.cells
    have hjK : j < K.length := (List.getElem?_eq_some_iff.1 kj).1
    obtain ⟨hoki, hci⟩ := stc i i1
    by_cases hil : i < s.plan.length
    · have hidx := hplan.at_ hil
      have hnext := stS i hil
      generalize s.plan[i] = x at *
      have hx : ((evA x).cells) = [AV.i x.at_, AV.i x.kind, AV.i x.keep, AV.i x.torn] := rfl
      have hKl : K.length < (K ++ [[AV.v (Value.int IntKind.i64 0), AV.v (Value.int IntKind.i64 0), AV.v (Value.int IntKind.i64 0), AV.v (Value.int IntKind.i64 0)]]).length := by simp
      have k1 : ((K ++ [[AV.v (Value.int IntKind.i64 0), AV.v (Value.int IntKind.i64 0), AV.v (Value.int IntKind.i64 0), AV.v (Value.int IntKind.i64 0)]]).set K.length [AV.i x.at_, AV.i x.kind, AV.i x.keep, AV.i x.torn])[K.length]? = some [AV.i x.at_, AV.i x.kind, AV.i x.keep, AV.i x.torn] := get_set hKl
      have k2 : ∀ y, y < K.length → ((K ++ [[AV.v (Value.int IntKind.i64 0), AV.v (Value.int IntKind.i64 0), AV.v (Value.int IntKind.i64 0), AV.v (Value.int IntKind.i64 0)]]).set K.length [AV.i x.at_, AV.i x.kind, AV.i x.keep, AV.i x.torn])[y]? = K[y]? := fun y hy => by rw [get_set_ne_ (by omega), get_old_ hy]
      have k3 : K.length ≤ ((K ++ [[AV.v (Value.int IntKind.i64 0), AV.v (Value.int IntKind.i64 0), AV.v (Value.int IntKind.i64 0), AV.v (Value.int IntKind.i64 0)]]).set K.length [AV.i x.at_, AV.i x.kind, AV.i x.keep, AV.i x.torn]).length := by simp
      have kj' := k2 j hjK
      rw [kj] at kj'
      have hdk' : DiskAt ((K ++ [[AV.v (Value.int IntKind.i64 0), AV.v (Value.int IntKind.i64 0), AV.v (Value.int IntKind.i64 0), AV.v (Value.int IntKind.i64 0)]]).set K.length [AV.i x.at_, AV.i x.kind, AV.i x.keep, AV.i x.torn]) j S' (st i).1 := hdk.grew k2
      have hsk' : Step H S ((K ++ [[AV.v (Value.int IntKind.i64 0), AV.v (Value.int IntKind.i64 0), AV.v (Value.int IntKind.i64 0), AV.v (Value.int IntKind.i64 0)]]).set K.length [AV.i x.at_, AV.i x.kind, AV.i x.keep, AV.i x.torn]) S' := hsk.trans (Step.grew k3 k2)
      generalize hK' : (K ++ [[AV.v (Value.int IntKind.i64 0), AV.v (Value.int IntKind.i64 0), AV.v (Value.int IntKind.i64 0), AV.v (Value.int IntKind.i64 0)]]).set K.length [AV.i x.at_, AV.i x.kind, AV.i x.keep, AV.i x.torn] = K' at *
      repeat' first | simp (disch := first | omega | assumption | decide) only [go_sem, hm, hz, ht, hr_, g0, g1, g6, g7, g22, g23, g24, hidx, hx, hK', k1, kj', wdl, bind_some_, map_some_, oneD_fold] | refine ifP_in (fun _ => ?_) fun _ => ?_
      · have hq : st (i + 1) = st i := by rw [hnext]; unfold Dk.evStep; rw [if_pos (by assumption)]
        exact ⟨i + 1, ⟨by rw [hq], by rw [hq], rfl, by omega, S', by rw [hq]; exact hdk', hsk'⟩, by omega⟩
      · refine rF_use (crash_w hdk' hoki (by omega) x.keep x.torn) ?_
        rintro _ K2 ⟨rfl, S2, hd2, hs2⟩
        have hq : st (i + 1) = (Dk.crash (st i).1 x.keep x.torn, (st i).2.1, (st i).2.2) := by rw [hnext]; unfold Dk.evStep; rw [if_neg (by assumption), if_pos (by assumption)]
        repeat' first | simp (disch := first | omega | assumption | decide) only [go_sem, hm, hz, ht, hr_, g0, g1, g6, g7, g22, g23, g24, wdl, bind_some_, map_some_, oneD_fold] | refine ifP_in (fun _ => ?_) fun _ => ?_
        exact ⟨i + 1, ⟨by rw [hq], by rw [hq], rfl, by omega, S2, by rw [hq]; exact hd2, hsk'.trans hs2⟩, by omega⟩
      · have hq : st (i + 1) = ((st i).1, true, (st i).2.2) := by rw [hnext]; unfold Dk.evStep; rw [if_neg (by assumption), if_neg (by assumption), if_pos (by assumption)]
        exact ⟨i + 1, ⟨by rw [hq], by rw [hq], rfl, by omega, S', by rw [hq]; exact hdk', hsk'⟩, by omega⟩
      · have hq : st (i + 1) = ((st i).1, (st i).2.1, true) := by rw [hnext]; unfold Dk.evStep; rw [if_neg (by assumption), if_neg (by assumption), if_neg (by assumption), if_pos (by assumption)]
        exact ⟨i + 1, ⟨by rw [hq], by rw [hq], rfl, by omega, S', by rw [hq]; exact hdk', hsk'⟩, by omega⟩
      · have hq : st (i + 1) = st i := by rw [hnext]; unfold Dk.evStep; rw [if_neg (by assumption), if_neg (by assumption), if_neg (by assumption), if_neg (by assumption)]
        exact ⟨i + 1, ⟨by rw [hq], by rw [hq], rfl, by omega, S', by rw [hq]; exact hdk', hsk'⟩, by omega⟩
    · have : i = s.plan.length := by omega
      subst this
      have hcall : Dk.call s names = ((Dk.events s).1, (Dk.events s).2.1, if (Dk.events s).1.down = true then 9 else if (Dk.events s).2.2 = true then 8 else if names.all Dk.nameOk = false then 4 else 0) := rfl
      rw [hcall]
      rw [stE] at *
      generalize Dk.events s = r at *
      cases hdn : r.1.down with
      | true =>
        rw [hdn] at kj
        repeat' first | simp (disch := first | omega | assumption | decide) only [go_sem, hm, hz, ht, hr_, g0, g1, g6, g7, g22, g23, g24, kj, wdl, bind_some_, map_some_, oneD_fold] | refine ifP_in (fun _ => ?_) fun _ => ?_
        exact ⟨S', hdk, hsk⟩
      | false =>
        rw [hdn] at kj
        cases hbr : r.2.2 with
        | true =>
          rw [hbr] at g7
          repeat' first | simp (disch := first | omega | assumption | decide) only [go_sem, hm, hz, ht, hr_, g0, g1, g6, g7, g22, g23, g24, kj, wdl, bind_some_, map_some_, oneD_fold] | refine ifP_in (fun _ => ?_) fun _ => ?_
          exact ⟨S', hdk, hsk⟩
        | false =>
          rw [hbr] at g7
          repeat' first | simp (disch := first | omega | assumption | decide) only [go_sem, hm, hz, ht, hr_, g0, g1, g6, g7, g22, g23, g24, kj, wdl, bind_some_, map_some_, oneD_fold] | refine ifP_in (fun _ => ?_) fun _ => ?_
          refine rL_loop (σ := Nat) (fun i e K2 => K2 = K ∧ e 6 = .b r.2.1 ∧ e 59 = .sl (names.map AV.str) ∧ e 60 = .i names.length ∧ e 61 = .i i ∧ i ≤ names.length ∧ (names.take i).all Dk.nameOk = true) (fun i => names.length - i) 0 ?_ ?_
          · refine ⟨rfl, ?_, ?_, ?_, ?_, by omega, rfl⟩
            all_goals first | (simp (disch := first | assumption | omega) only [go_sem, g1, g6]; done) | (simp (disch := first | assumption | omega) only [go_sem, g1, g6]; rfl)
          · clear g0 g1 g6 g7 g22 g23 g24
            rintro i e K2 ⟨hK2, g6, g59, g60, g61, n1, n2⟩
            have hK2 := hK2.symm
            subst hK2
            by_cases hin : i < names.length
            · have hix : ix names (i : Int) = names[i] := by simp [ix, List.getD_eq_getElem?_getD, List.getElem?_eq_getElem hin]
              have hcs : ∀ l : Bs, AV.cells (AV.str l) = [AV.str l] := fun _ => rfl
              repeat' first | simp (disch := first | omega | assumption | decide) only [go_sem, hm, hz, ht, hr_, g6, g59, g60, g61, hix, hcs, wdl, bind_some_, map_some_, oneD_fold] | refine ifP_in (fun _ => ?_) fun _ => ?_
              refine rF_use (name_w names[i] (hns _ (List.getElem_mem hin))) ?_
              rintro _ K3 ⟨rfl, rfl⟩
              have hsnoc : (names.take (i + 1)).all Dk.nameOk = ((names.take i).all Dk.nameOk && Dk.nameOk names[i]) := by rw [List.take_succ_eq_append_getElem hin, List.all_append]; simp
              cases hno : Dk.nameOk names[i] with
              | true =>
                repeat' first | simp (disch := first | omega | assumption | decide) only [go_sem, hm, hz, ht, hr_, g6, g59, g60, g61, wdl, bind_some_, map_some_, oneD_fold] | refine ifP_in (fun _ => ?_) fun _ => ?_
                exact ⟨i + 1, ⟨rfl, by omega, by rw [hsnoc, n2, hno]; rfl⟩, by omega⟩
              | false =>
                repeat' first | simp (disch := first | omega | assumption | decide) only [go_sem, hm, hz, ht, hr_, g6, g59, g60, g61, wdl, bind_some_, map_some_, oneD_fold] | refine ifP_in (fun _ => ?_) fun _ => ?_
                have : names.all Dk.nameOk = false := by
                  rw [List.all_eq_false]
                  exact ⟨names[i], List.getElem_mem hin, by simp [hno]⟩
                rw [this]
                exact ⟨rfl, S', hdk, hsk⟩
            · have : i = names.length := by omega
              subst this
              rw [List.take_length] at n2
              repeat' first | simp (disch := first | omega | assumption | decide) only [go_sem, hm, hz, ht, hr_, g6, g59, g60, g61, wdl, bind_some_, map_some_, oneD_fold] | refine ifP_in (fun _ => ?_) fun _ => ?_
              rw [n2]
              exact ⟨rfl, S', hdk, hsk⟩
end Jn
end Go.Proofs
/- Walks: what the disk does. -/
set_option linter.unusedVariables false
set_option linter.unusedSimpArgs false
namespace Go.Proofs
open Go.Lv
namespace Jn
open Dk (Files Bs Ch Ev)
variable {H : Heap}

/-- Elements behind a slice whose spare room is its own; what else is in memory stands. -/
theorem bind_appendF {P : Program} {α : Type} {f : α → AV} {k : Nat} {a : AV} {xs : List α} [hf : CellsN f k] {t u el el' : TypeId} {by_ : Nat} {z : List AV} [ht : UndIs P t (.slice el)] [hu : UndIs P u (.slice el')] [hs : SizeIs P el k] [hb : BytesIs P el by_] [hz : ZeroIs P el z]
    {ys : List α} {Q : AV × Heap → Prop} (hr : TokOf f k 0 H a xs) (hk : (0 : Int) < k) (hzl : (z.length : Int) = k) (h0 : 0 < ys.length) (hle : ((xs.length : Int) + ys.length) * (by_ + 1) ≤ 140737488355328)
    (hq : ∀ a' H', TokOf f k 0 H' a' (xs ++ ys) → (∀ i, i < H.length → i ∉ tokP a → H'[i]? = H[i]?) → H.length ≤ H'.length → tokP a' = [H.length] → a'.cells = [a'] ∧ a'.one = true → Q (a', H')) : @bindP _ (appendT P H t u a (.sl (ys.map f))) ⟨Q⟩ := by
  have hle' : (xs.length + ys.length) * (by_ + 1) ≤ 140737488355328 := by
    have : (((xs.length + ys.length) * (by_ + 1) : Nat) : Int) = ((xs.length : Int) + ys.length) * (by_ + 1) := by push_cast; rfl
    omega
  have c1 : 0 < k ∧ z.length = k ∧ (∀ a ∈ ys.map f, a.cells.length = k) ∧ 0 < (ys.map f).length := ⟨by omega, by omega, map_cells ys, by simpa using h0⟩
  rcases hr with ⟨rfl, rfl⟩ | ⟨j, _, rfl, hH, hx⟩
  · have e : appendT P H t u nilA (.sl (ys.map f)) = some (.ow (ys.map f) H.length, H ++ [[.tk (ys.length * k)]]) := by
      unfold appendT nilA
      rw [ht.h, hu.h]
      simp only [hs.h, hb.h, hz.h]
      rw [if_pos c1, if_pos ⟨rfl, by simpa using hle'⟩, List.length_map]
    rw [e, bindP_some]
    refine hq _ _ (.inr ⟨H.length, Nat.zero_le _, by simp, ?_, by simpa using h0⟩) (fun i hi _ => List.getElem?_append_left hi) (by simp) rfl ⟨rfl, rfl⟩
    rw [List.getElem?_append_right (Nat.le_refl _)]; simp
  · have e : appendT P H t u (.ow (xs.map f) j) (.sl (ys.map f)) = some (.ow ((xs ++ ys).map f) H.length, H.set j [] ++ [[.tk ((xs ++ ys).length * k)]]) := by
      unfold appendT
      rw [ht.h, hu.h]
      simp only [hs.h, hb.h, hz.h]
      rw [if_pos c1, if_pos ⟨by rw [hH]; simp [tkRow], by simpa using hle', map_cells xs, by simpa using hx⟩]
      simp
    rw [e, bindP_some]
    refine hq _ _ (.inr ⟨H.length, Nat.zero_le _, rfl, ?_, by simp; omega⟩) (fun i hi hn => ?_) (by simp) rfl ⟨rfl, rfl⟩
    · rw [get_end]
    · rw [List.getElem?_append_left (by simpa using hi), List.getElem?_set_ne (by simp [tokP] at hn; omega)]

theorem does_w {j : Nat} {S : List Nat} {s : Dk.Disk} (hd : DiskAt H j S s) (hok : Dk.Ok s) (c : Ch) (hp : s.pend.length < 1000000) (hu : Dk.used s.now ≤ 1073741824) (hcd : c.data.length ≤ 1073741824) :
    WF Tryz.prog cfg 72 [.ptr j 0, chA c] H (fun r H' => r = .i 0 ∧ ∃ S', DiskAt H' j S' (Dk.does s c) ∧ Step H S H' S') := by
  have hlt := hd.lt
  obtain ⟨a, b, pa, pl, hr, rfl⟩ := hd
  have hone := chA_one c
  obtain ⟨hj, ha, hb, hab, hpend, hplan⟩ := hr
  have hjl := hlt j (by simp)
  have hal := hlt a (by simp)
  have hbl := hlt b (by simp)
  have hja : j ≠ a := by rintro rfl; rw [hj] at ha; cases ha
  have hjb : j ≠ b := by rintro rfl; rw [hj] at hb; cases hb
  have htok : ∀ x ∈ tokP pa, x ≠ j ∧ x ≠ a ∧ x ≠ b ∧ x < H.length := by
    intro x hx
    rcases hpend with ⟨rfl, _⟩ | ⟨k, _, rfl, hk, _⟩
    · simp [tokP_nil] at hx
    · simp only [tokP, List.mem_singleton] at hx
      subst hx
      refine ⟨?_, ?_, ?_, (List.getElem?_eq_some_iff.1 hk).1⟩
      · rintro rfl; rw [hj] at hk; cases hk
      · rintro rfl; rw [ha] at hk; cases hk
      · rintro rfl; rw [hb] at hk; cases hk
  have hm : ∀ d, cfg.muF 72 d = (false) := fun _ => rfl
  have hz : ∀ d, cfg.fzF 72 d = (false) := fun _ => rfl
  have ht : ∀ d, cfg.tkF 72 d = (d == 18) := fun _ => rfl
  have hr_ : ∀ g, cfg.raw g = (g == 68) := fun _ => rfl
  refine rF_fn rfl rfl Tryz.func72 rfl ?_
  have hb1 : (H ++ [(chA c).cells])[H.length]? = some [AV.str c.name, AV.str c.frm, chD c, .b c.puts, .b c.behind] := end_get H (chA c).cells
  have k2 : ∀ y, y < H.length → (H ++ [(chA c).cells])[y]? = H[y]? := fun y hy => get_old_ hy
  have k3 : (H ++ [(chA c).cells]).length = H.length + 1 := by simp
  have hpend1 : TokOf chA 5 0 (H ++ [(chA c).cells]) pa s.pend := hpend.pre (List.prefix_append _ _)
  generalize hH1 : H ++ [(chA c).cells] = H1 at *
  have hj1 : H1[j]? = some [.i s.room, .mp a, .mp b, pa, pl, .i s.calls, .b s.down] := by rw [k2 j hjl]; exact hj
  repeat' first | simp (disch := first | omega | assumption | decide) only [go_sem, hm, hz, ht, hr_, hone, hH1, hb1, hj1, bind_some_, map_some_] | refine ifP_in (fun _ => ?_) fun _ => ?_
  refine rF_use (make_w s.now c (a := a) (by rw [k2 a hal]; exact ha) (by omega)) ?_
  rintro _ H2 ⟨rfl, rfl⟩
  have l2 : ((H1 ++ [(chA c).cells]).set a (filesA (Dk.make s.now c))).length = H.length + 2 := by simp; omega
  have m2 : ∀ y, y < H.length → y ≠ a → ((H1 ++ [(chA c).cells]).set a (filesA (Dk.make s.now c)))[y]? = H[y]? := fun y hy hne => by rw [get_set_ne_ (fun h => hne h.symm), get_old_ (by omega)]; exact k2 y hy
  have ma : ((H1 ++ [(chA c).cells]).set a (filesA (Dk.make s.now c)))[a]? = some (filesA (Dk.make s.now c)) := get_set (by simp; omega)
  have mc : ((H1 ++ [(chA c).cells]).set a (filesA (Dk.make s.now c)))[H.length]? = some [AV.str c.name, AV.str c.frm, chD c, .b c.puts, .b c.behind] := by rw [get_set_ne_ (by omega), get_old_ (by omega)]; exact hb1
  generalize (H1 ++ [(chA c).cells]).set a (filesA (Dk.make s.now c)) = H2 at l2 m2 ma mc ⊢
  have hj2 : H2[j]? = some [.i s.room, .mp a, .mp b, pa, pl, .i s.calls, .b s.down] := by rw [m2 j hjl hja]; exact hj
  have hpend2 : TokOf chA 5 0 H2 pa s.pend := by
    rcases hpend with h | ⟨k, h1, rfl, h3, h4⟩
    · exact .inl h
    · obtain ⟨_, q2, _, q4⟩ := htok k (by simp [tokP])
      exact .inr ⟨k, h1, rfl, by rw [m2 k q4 q2]; exact h3, h4⟩
  have hck : cellsOK 5 (AV.agg [AV.str c.name, AV.str c.frm, chD c, AV.b c.puts, AV.b c.behind]) = true := by
    show ((chA c).cells.length == 5 && (chA c).cells.all AV.one) = true
    rw [chA_one]; rfl
  repeat' first | simp (disch := first | omega | assumption | decide) only [go_sem, hm, hz, ht, hr_, hone, mc, hj2, cells_chA, hck, wdl, bind_some_, map_some_, oneD_fold] | refine ifP_in (fun _ => ?_) fun _ => ?_
  refine bind_appendF (f := chA) (ys := [c]) hpend2 (by omega) rfl (by simp) (by simp; omega) ?_
  intro a' H3 hp3 hs3 hl3 ht3 ho3
  have q3 : ∀ y, y < H2.length → y ∉ tokP pa → H3[y]? = H2[y]? := hs3
  have hjt : j ∉ tokP pa := fun h => (htok j h).1 rfl
  have hat : a ∉ tokP pa := fun h => (htok a h).2.1 rfl
  have hbt : b ∉ tokP pa := fun h => (htok b h).2.2.1 rfl
  have hct : H.length ∉ tokP pa := fun h => by have := (htok _ h).2.2.2; omega
  have hj3 : H3[j]? = some [.i s.room, .mp a, .mp b, pa, pl, .i s.calls, .b s.down] := by rw [q3 j (by omega) hjt]; exact hj2
  have mc3 : H3[H.length]? = some [AV.str c.name, AV.str c.frm, chD c, .b c.puts, .b c.behind] := by rw [q3 _ (by omega) hct]; exact mc
  have hcj : H.length ≠ j := by omega
  have hst : ∀ cs, storeC Tryz.prog 63 H3 j (0 + 3) a' cs = storeS H3 j (0 + 3) a' cs := fun cs => storeC_one ho3.1 ho3.2
  have hst2 : ∀ cs, storeC Tryz.prog 63 H3 j 3 a' cs = storeS H3 j 3 a' cs := fun cs => storeC_one ho3.1 ho3.2
  repeat' first | simp (disch := first | omega | assumption | decide) only [go_sem, hm, hz, ht, hr_, hone, mc3, hj3, hst, hst2, wdl, bind_some_, map_some_, oneD_fold] | refine ifP_in (fun _ => ?_) fun _ => ?_
  refine ⟨Or.inl (by decide +kernel), ?_⟩
  repeat' first | simp (disch := first | omega | assumption | decide) only [go_sem, hm, hz, ht, hr_, hone, mc3, hj3, hst, hst2, wdl, bind_some_, map_some_, oneD_fold] | refine ifP_in (fun _ => ?_) fun _ => ?_
  have hH2j : H2.length ≠ j := by omega
  refine ⟨_, ⟨a, b, a', pl, ⟨get_set (by omega), ?_, ?_, hab, ?_, hplan⟩, rfl⟩, ⟨by simp; omega, fun x hx hS => ?_, fun x hx => ?_⟩⟩
  · rw [get_set_ne_ hja, q3 a (by omega) hat]; exact ma
  · rw [get_set_ne_ hjb, q3 b (by omega) hbt, m2 b hbl (fun h => hab h.symm)]; exact hb
  · rcases hp3 with ⟨_, h⟩ | ⟨k, h1, rfl, h3, h4⟩
    · simp at h
    · refine .inr ⟨k, h1, rfl, ?_, h4⟩
      have : k = H2.length := by simpa [tokP] using ht3
      rw [get_set_ne_ (by omega)]; exact h3
  · simp only [List.mem_cons, not_or] at hS
    rw [get_set_ne_ (fun h => hS.1 h.symm), q3 x (by omega) hS.2.2.2, m2 x hx hS.2.1]
  · rw [ht3] at hx
    simp only [List.mem_cons, List.not_mem_nil, or_false] at hx
    rcases hx with rfl | rfl | rfl | rfl
    · exact .inl (by simp)
    · exact .inl (by simp)
    · exact .inl (by simp)
    · exact .inr (by omega)

theorem has_w {j : Nat} {S : List Nat} {s : Dk.Disk} (hd : DiskAt H j S s) (n : Bs) : WF Tryz.prog cfg 71 [.ptr j 0, .str n] H (fun r H' => r = .b (Dk.has s.now n) ∧ H' = H) := by
  obtain ⟨a, b, pa, pl, hr, rfl⟩ := hd
  have hj := hr.hj
  have hl2 : lookupA Tryz.prog H 62 (.mp a) (AV.str n) true = some (.tup [AV.bytes (Dk.data s.now n), .b (Dk.has s.now n)]) := lookup2_files (kt := 9) (et := 38) zeroV_bytes hr.ha
  have hm : ∀ d, cfg.muF 71 d = (false) := fun _ => rfl
  have hz : ∀ d, cfg.fzF 71 d = (false) := fun _ => rfl
  have ht : ∀ d, cfg.tkF 71 d = (false) := fun _ => rfl
  have hr_ : ∀ g, cfg.raw g = (g == 68) := fun _ => rfl
  refine rF_fn rfl rfl Tryz.func71 rfl ?_
  repeat' first | simp (disch := first | omega | assumption | decide) only [go_sem, hm, hz, ht, hr_, hj, hl2, wdl, bind_some_, map_some_, oneD_fold] | refine ifP_in (fun _ => ?_) fun _ => ?_

theorem used_w {j : Nat} {S : List Nat} {s : Dk.Disk} (hd : DiskAt H j S s) (hu : Dk.used s.now ≤ 1073741824) : WF Tryz.prog cfg 58 [.ptr j 0] H (fun r H' => r = .i (Dk.used s.now) ∧ H' = H) := by
  obtain ⟨a, b, pa, pl, hr, rfl⟩ := hd
  refine WF.ext (g := fun args H => usedT H args) rfl (r := .i (Dk.used s.now)) (H' := H) ?_ ⟨rfl, rfl⟩
  show usedT H [.ptr j 0] = _
  have hl : ∀ f : Files, lensA (valsA f) = some (Dk.used f) := by
    intro f
    induction f with
    | nil => rfl
    | cons p f ih =>
      show lensA (AV.bytes p.2 :: valsA f) = _
      unfold lensA
      rw [ih]
      simp [lenA, AV.bytes, Dk.used_cons]
  simp only [usedT, hr.hj, Option.bind_some, mapOf_files hr.ha, hl]
  rw [if_pos (by omega)]

theorem lay_w {j : Nat} {S : List Nat} {s : Dk.Disk} (hd : DiskAt H j S s) (hok : Dk.Ok s) (c : Ch) (hpb : c.puts = true ∨ c.behind = true) {x : AV} (hx : Reads H x c.data) (more : Int) (full : Bool) (hp : s.pend.length < 1000000) (hu : Dk.used s.now ≤ 1073741824) (hcd : (c.data.length : Int) ≤ more + Dk.used s.now) (hm1 : -2000000000 ≤ more ∧ more ≤ 281474976710656) (hrm : 0 ≤ s.room ∧ s.room ≤ 1073741824) :
    WF Tryz.prog cfg 79 [.ptr j 0, .agg [AV.str c.name, AV.str c.frm, x, .b c.puts, .b c.behind], .i more, .b full] H (fun r H' => r = .i (Dk.lay s c more full).2 ∧ ∃ S', DiskAt H' j S' (Dk.lay s c more full).1 ∧ Step H S H' S') := by
  have hxc : x.cells = [x] := by rcases hx with rfl | ⟨_, _, _, rfl, _⟩ <;> rfl
  have hxo : x.one = true := by rcases hx with rfl | ⟨_, _, _, rfl, _⟩ <;> rfl
  obtain ⟨ag, hag⟩ : ∃ ag, ag = AV.agg [AV.str c.name, AV.str c.frm, x, .b c.puts, .b c.behind] := ⟨_, rfl⟩
  have hpx : plainA x = x := by rcases hx with rfl | ⟨_, _, _, rfl, _⟩ <;> rfl
  have hcl : ag.cells = [AV.str c.name, AV.str c.frm, x, .b c.puts, .b c.behind] := by rw [hag]; rfl
  have hone : ag.cells.all AV.one = true := by
    rw [hcl]
    simp only [List.all_cons, List.all_nil, hxo, Bool.and_true, Bool.true_and]
    rfl
  rw [← hag]
  have hm : ∀ d, cfg.muF 79 d = (false) := fun _ => rfl
  have hz : ∀ d, cfg.fzF 79 d = (false) := fun _ => rfl
  have ht : ∀ d, cfg.tkF 79 d = (false) := fun _ => rfl
  have hr_ : ∀ g, cfg.raw g = (g == 68) := fun _ => rfl
  refine rF_fn rfl rfl Tryz.func79 rfl ?_
  have hb1 : (H ++ [ag.cells])[H.length]? = some [AV.str c.name, AV.str c.frm, x, .b c.puts, .b c.behind] := by rw [← hcl]; exact end_get H _
  have hx1 : Reads (H ++ [ag.cells]) x c.data := by
    rcases hx with rfl | ⟨k, off, xs, rfl, h1, h2⟩
    · exact .inl rfl
    · exact .inr ⟨k, off, xs, rfl, by rw [get_old_ (List.getElem?_eq_some_iff.1 h1).1]; exact h1, h2⟩
  have k2 : ∀ y, y < H.length → (H ++ [ag.cells])[y]? = H[y]? := fun y hy => get_old_ hy
  have k3 : (H ++ [ag.cells]).length = H.length + 1 := by simp
  have hd1 : DiskAt (H ++ [ag.cells]) j S s := hd.grew k2
  have hs1 : Step H S (H ++ [ag.cells]) S := Step.grew (by omega) k2
  generalize hH1 : H ++ [ag.cells] = H1 at *
  obtain ⟨a, b, pa, pl, hj1⟩ := hd1.cells
  cases full with
  | true =>
    repeat' first | simp (disch := first | omega | assumption | decide) only [go_sem, hm, hz, ht, hr_, hone, hH1, hb1, hj1, bind_some_, map_some_] | refine ifP_in (fun _ => ?_) fun _ => ?_
    refine ⟨?_, S, ?_, hs1⟩
    · unfold Dk.lay; rw [if_pos (.inl rfl)]
    · unfold Dk.lay; rw [if_pos (.inl rfl)]; exact hd1
  | false =>
    repeat' first | simp (disch := first | omega | assumption | decide) only [go_sem, hm, hz, ht, hr_, hone, hH1, hb1, hj1, bind_some_, map_some_] | refine ifP_in (fun _ => ?_) fun _ => ?_
    refine rF_use (used_w hd1 hu) ?_
    rintro _ H2 ⟨rfl, rfl⟩
    by_cases hmore : s.room - Dk.used s.now < more
    · repeat' first | simp (disch := first | omega | assumption | decide) only [go_sem, hm, hz, ht, hr_, hone, hb1, hj1, wdl, bind_some_, map_some_, oneD_fold] | refine ifP_in (fun _ => ?_) fun _ => ?_
      refine ⟨?_, S, ?_, hs1⟩
      · unfold Dk.lay; rw [if_pos (.inr hmore)]
      · unfold Dk.lay; rw [if_pos (.inr hmore)]; exact hd1
    · have hcd : c.data.length ≤ 1073741824 := by omega
      repeat' first | simp (disch := first | omega | assumption | decide) only [go_sem, hm, hz, ht, hr_, hone, hb1, hj1, hpx, wdl, bind_some_, map_some_, oneD_fold] | refine ifP_in (fun _ => ?_) fun _ => ?_
      refine rF_use (clone_w c.data (by omega) hx1) ?_
      rintro _ H3 ⟨rfl, rfl⟩
      repeat' first | simp (disch := first | omega | assumption | decide) only [go_sem, hm, hz, ht, hr_, hone, hb1, hj1, wdl, bind_some_, map_some_, oneD_fold] | refine ifP_in (fun _ => ?_) fun _ => ?_
      have hca : AV.agg [AV.str c.name, AV.str c.frm, AV.sl (c.data.map byteA), AV.b c.puts, AV.b c.behind] = chA c := by rw [chA_eq, chD_data hpb]
      rw [hca]
      have r2 : ∀ y, y < H.length → (H3.set H.length [AV.str c.name, AV.str c.frm, AV.sl (c.data.map byteA), AV.b c.puts, AV.b c.behind])[y]? = H[y]? := fun y hy => by rw [get_set_ne_ (by omega)]; exact k2 y hy
      have r3 : (H3.set H.length [AV.str c.name, AV.str c.frm, AV.sl (c.data.map byteA), AV.b c.puts, AV.b c.behind]).length = H.length + 1 := by simp; omega
      have hd3 : DiskAt (H3.set H.length [AV.str c.name, AV.str c.frm, AV.sl (c.data.map byteA), AV.b c.puts, AV.b c.behind]) j S s := hd.grew r2
      have hs3 : Step H S (H3.set H.length [AV.str c.name, AV.str c.frm, AV.sl (c.data.map byteA), AV.b c.puts, AV.b c.behind]) S := Step.grew (by omega) r2
      generalize H3.set H.length [AV.str c.name, AV.str c.frm, AV.sl (c.data.map byteA), AV.b c.puts, AV.b c.behind] = H4 at *
      refine rF_use (does_w hd3 hok c hp hu hcd) ?_
      rintro _ H5 ⟨rfl, S5, hd5, hs5⟩
      repeat' first | simp (disch := first | omega | assumption | decide) only [go_sem, hm, hz, ht, hr_, wdl, bind_some_, map_some_, oneD_fold] | refine ifP_in (fun _ => ?_) fun _ => ?_
      refine ⟨?_, S5, ?_, hs3.trans hs5⟩
      · unfold Dk.lay; rw [if_neg (by rintro (h | h); · cases h
                                      · exact hmore h)]
      · unfold Dk.lay; rw [if_neg (by rintro (h | h); · cases h
                                      · exact hmore h)]; exact hd5
end Jn
end Go.Proofs
/- Walks: the disk's calls. -/
set_option linter.unusedVariables false
set_option linter.unusedSimpArgs false
namespace Go.Proofs
open Go.Lv
namespace Jn
open Dk (Files Bs Ch Ev)
variable {H : Heap}

/-- What a call asks of a disk. -/
structure Can (s : Dk.Disk) : Prop where
  ok : Dk.Ok s
  calls : s.calls < 1000000
  plan : s.plan.length < 1000000

/-- A row that may be written lies elsewhere. -/
def Off (x : AV) (S : List Nat) : Prop := ∀ k off len n g, x = .mr k off len n g → k ∉ S
theorem Reads.plain {x : AV} {b : Bs} (hx : Reads H x b) : plainA x = x := by rcases hx with rfl | ⟨_, _, _, rfl, _⟩ <;> rfl
theorem Reads.cells {x : AV} {b : Bs} (hx : Reads H x b) : x.cells = [x] := by rcases hx with rfl | ⟨_, _, _, rfl, _⟩ <;> rfl
theorem Reads.one {x : AV} {b : Bs} (hx : Reads H x b) : x.one = true := by rcases hx with rfl | ⟨_, _, _, rfl, _⟩ <;> rfl
theorem Reads.len {x : AV} {b : Bs} (hx : Reads H x b) {el : TypeId} : lenD (some (.slice el)) (owA x) = some (.v (.int .i64 b.length)) := by
  rcases hx with rfl | ⟨_, _, _, rfl, _⟩
  · simp [owA, lenD]
  · rfl
theorem Reads.step {x : AV} {b : Bs} (hx : Reads H x b) {S S1 : List Nat} {H1 : Heap} (hxs : Off x S) (hs : Step H S H1 S1) : Reads H1 x b := by
  rcases hx with rfl | ⟨k, off, xs, rfl, h1, h2⟩
  · exact .inl rfl
  · exact .inr ⟨k, off, xs, rfl, by rw [hs.same k (List.getElem?_eq_some_iff.1 h1).1 (hxs _ _ _ _ _ rfl)]; exact h1, h2⟩
theorem Reads.off {x : AV} {b : Bs} (hx : Reads H x b) {S S1 : List Nat} {H1 : Heap} (hxs : Off x S) (hs : Step H S H1 S1) : Off x S1 := by
  rintro k off len n g rfl hm
  rcases hs.new k hm with h | h
  · exact hxs _ _ _ _ _ rfl h
  · rcases hx with h1 | ⟨k', off', xs, h1, h2, _⟩
    · cases h1
    · injection h1 with h1; subst h1
      have := (List.getElem?_eq_some_iff.1 h2).1
      omega

theorem write_r {j : Nat} {S : List Nat} {s : Dk.Disk} (hd : DiskAt H j S s) (hc : Can s) (n b : Bs) (hn : n.length ≤ 1000000) (hb : b.length ≤ 140737488355328) {x : AV} (hx : Reads H x b) (hxs : Off x S) :
    WF Tryz.prog cfg 41 [.ptr j 0, .str n, x] H (fun r H' => r = .i (Dk.write s n b).2 ∧ ∃ S', DiskAt H' j S' (Dk.write s n b).1 ∧ Step H S H' S') := by
  have hpx : plainA x = x := hx.plain
  have hfd := fun (offs : List (Nat × Nat)) (cells : List AV) (i : Nat) (rest : List (Nat × AV)) => fillD_part (offs := offs) (cells := cells) (i := i) (rest := rest) hx.cells hx.one
  have hlx := fun el => hx.len (el := el)
  have hm : ∀ d, cfg.muF 41 d = (false) := fun _ => rfl
  have hz : ∀ d, cfg.fzF 41 d = (false) := fun _ => rfl
  have ht : ∀ d, cfg.tkF 41 d = (false) := fun _ => rfl
  have hr_ : ∀ g, cfg.raw g = (g == 68) := fun _ => rfl
  refine rF_fn rfl rfl Tryz.func41 rfl ?_
  repeat' first | simp (disch := first | omega | assumption | decide) only [go_sem, hm, hz, ht, hr_, hpx, wdl, bind_some_, map_some_, oneD_fold] | refine ifP_in (fun _ => ?_) fun _ => ?_
  refine rF_use (call_w hd hc.ok hc.calls hc.plan [n] (by simp) (by simp; omega)) ?_
  rintro _ H1 ⟨rfl, S1, hd1, hs1⟩
  have hx1 := hx.step hxs hs1
  unfold Dk.write
  have hcs : (Dk.call s [n]).1 = (Dk.events s).1 := rfl
  have hok1 := hc.ok.events
  have hec := Dk.events_calls s
  have hep := Dk.events_pend s hc.ok
  have hu1 := hok1.used
  unfold Dk.Len at hu1
  have hrm := hok1.room
  unfold Dk.Len at hrm
  rw [← hcs] at hok1 hec hep hu1 hrm
  have hc2 := hc.calls
  generalize Dk.call s [n] = r at *
  by_cases h0 : r.2.2 = 0
  · obtain ⟨a, b', pa, pl, hr, hS⟩ := hd1
    have hj1 := hr.hj
    have hlk : lookupA Tryz.prog H1 62 (.mp a) (AV.str n) false = some (.sl ((Dk.data r.1.now n).map byteA)) := lookup_files (kt := 9) (et := 38) zeroV_bytes hr.ha
    have hd1 : DiskAt H1 j S1 r.1 := ⟨a, b', pa, pl, hr, hS⟩
    have hdl := Dk.data_le r.1.now n
    rw [if_neg (by rw [h0]; simp)]
    repeat' first | simp (disch := first | omega | assumption | decide) only [go_sem, hm, hz, ht, hr_, h0, hj1, hlk, hpx, hlx, hfd, wdl, bind_some_, map_some_, oneD_fold] | refine ifP_in (fun _ => ?_) fun _ => ?_
    refine rF_use (lay_w hd1 hok1 ⟨n, [], b, true, false⟩ (.inl rfl) hx1 ((b.length : Int) - (Dk.data r.1.now n).length) r.2.1 (by omega) hu1 (by simp only; omega) (by omega) hrm) ?_
    rintro _ H2 ⟨rfl, S2, hd2, hs2⟩
    repeat' first | simp (disch := first | omega | assumption | decide) only [go_sem, hm, hz, ht, hr_, wdl, bind_some_, map_some_, oneD_fold] | refine ifP_in (fun _ => ?_) fun _ => ?_
    exact ⟨S2, hd2, hs1.trans hs2⟩
  · rw [if_pos h0]
    repeat' first | simp (disch := first | omega | assumption | decide) only [go_sem, hm, hz, ht, hr_, wdl, bind_some_, map_some_, oneD_fold] | refine ifP_in (fun _ => ?_) fun _ => ?_
    exact ⟨S1, hd1, hs1⟩

theorem write_w {j : Nat} {S : List Nat} {s : Dk.Disk} (hd : DiskAt H j S s) (hc : Can s) (n b : Bs) (hn : n.length ≤ 1000000) (hb : b.length ≤ 140737488355328) :
    WF Tryz.prog cfg 41 [.ptr j 0, .str n, .sl (b.map byteA)] H (fun r H' => r = .i (Dk.write s n b).2 ∧ ∃ S', DiskAt H' j S' (Dk.write s n b).1 ∧ Step H S H' S') := write_r hd hc n b hn hb (.inl rfl) (fun _ _ _ _ _ h => by cases h)

theorem append_r {j : Nat} {S : List Nat} {s : Dk.Disk} (hd : DiskAt H j S s) (hc : Can s) (n b : Bs) (hn : n.length ≤ 1000000) (hb : b.length ≤ 140737488355328) {x : AV} (hx : Reads H x b) (hxs : Off x S) :
    WF Tryz.prog cfg 33 [.ptr j 0, .str n, x] H (fun r H' => r = .i (Dk.append s n b).2 ∧ ∃ S', DiskAt H' j S' (Dk.append s n b).1 ∧ Step H S H' S') := by
  have hpx : plainA x = x := hx.plain
  have hfd := fun (offs : List (Nat × Nat)) (cells : List AV) (i : Nat) (rest : List (Nat × AV)) => fillD_part (offs := offs) (cells := cells) (i := i) (rest := rest) hx.cells hx.one
  have hlx := fun el => hx.len (el := el)
  have hm : ∀ d, cfg.muF 33 d = (false) := fun _ => rfl
  have hz : ∀ d, cfg.fzF 33 d = (false) := fun _ => rfl
  have ht : ∀ d, cfg.tkF 33 d = (false) := fun _ => rfl
  have hr_ : ∀ g, cfg.raw g = (g == 68) := fun _ => rfl
  refine rF_fn rfl rfl Tryz.func33 rfl ?_
  repeat' first | simp (disch := first | omega | assumption | decide) only [go_sem, hm, hz, ht, hr_, hpx, wdl, bind_some_, map_some_, oneD_fold] | refine ifP_in (fun _ => ?_) fun _ => ?_
  refine rF_use (call_w hd hc.ok hc.calls hc.plan [n] (by simp) (by simp; omega)) ?_
  rintro _ H1 ⟨rfl, S1, hd1, hs1⟩
  have hx1 := hx.step hxs hs1
  unfold Dk.append
  have hcs : (Dk.call s [n]).1 = (Dk.events s).1 := rfl
  have hok1 := hc.ok.events
  have hec := Dk.events_calls s
  have hep := Dk.events_pend s hc.ok
  have hu1 := hok1.used
  unfold Dk.Len at hu1
  have hrm := hok1.room
  unfold Dk.Len at hrm
  rw [← hcs] at hok1 hec hep hu1 hrm
  have hc2 := hc.calls
  generalize Dk.call s [n] = r at *
  by_cases h0 : r.2.2 = 0
  · rw [if_neg (by rw [h0]; simp)]
    repeat' first | simp (disch := first | omega | assumption | decide) only [go_sem, hm, hz, ht, hr_, h0, hpx, hlx, hfd, wdl, bind_some_, map_some_, oneD_fold] | refine ifP_in (fun _ => ?_) fun _ => ?_
    refine rF_use (lay_w hd1 hok1 ⟨n, [], b, false, true⟩ (.inr rfl) hx1 (b.length : Int) r.2.1 (by omega) hu1 (by simp only; omega) (by omega) hrm) ?_
    rintro _ H2 ⟨rfl, S2, hd2, hs2⟩
    repeat' first | simp (disch := first | omega | assumption | decide) only [go_sem, hm, hz, ht, hr_, wdl, bind_some_, map_some_, oneD_fold] | refine ifP_in (fun _ => ?_) fun _ => ?_
    exact ⟨S2, hd2, hs1.trans hs2⟩
  · rw [if_pos h0]
    repeat' first | simp (disch := first | omega | assumption | decide) only [go_sem, hm, hz, ht, hr_, wdl, bind_some_, map_some_, oneD_fold] | refine ifP_in (fun _ => ?_) fun _ => ?_
    exact ⟨S1, hd1, hs1⟩

theorem append_w {j : Nat} {S : List Nat} {s : Dk.Disk} (hd : DiskAt H j S s) (hc : Can s) (n b : Bs) (hn : n.length ≤ 1000000) (hb : b.length ≤ 140737488355328) :
    WF Tryz.prog cfg 33 [.ptr j 0, .str n, .sl (b.map byteA)] H (fun r H' => r = .i (Dk.append s n b).2 ∧ ∃ S', DiskAt H' j S' (Dk.append s n b).1 ∧ Step H S H' S') := append_r hd hc n b hn hb (.inl rfl) (fun _ _ _ _ _ h => by cases h)

theorem delete_w {j : Nat} {S : List Nat} {s : Dk.Disk} (hd : DiskAt H j S s) (hc : Can s) (n : Bs) (hn : n.length ≤ 1000000) :
    WF Tryz.prog cfg 28 [.ptr j 0, .str n] H (fun r H' => r = .i (Dk.delete s n).2 ∧ ∃ S', DiskAt H' j S' (Dk.delete s n).1 ∧ Step H S H' S') := by
  have hm : ∀ d, cfg.muF 28 d = (false) := fun _ => rfl
  have hz : ∀ d, cfg.fzF 28 d = (false) := fun _ => rfl
  have ht : ∀ d, cfg.tkF 28 d = (false) := fun _ => rfl
  have hr_ : ∀ g, cfg.raw g = (g == 68) := fun _ => rfl
  refine rF_fn rfl rfl Tryz.func28 rfl ?_
  repeat' first | simp (disch := first | omega | assumption | decide) only [go_sem, hm, hz, ht, hr_, wdl, bind_some_, map_some_, oneD_fold] | refine ifP_in (fun _ => ?_) fun _ => ?_
  refine rF_use (call_w hd hc.ok hc.calls hc.plan [n] (by simp) (by simp; omega)) ?_
  rintro _ H1 ⟨rfl, S1, hd1, hs1⟩
  unfold Dk.delete
  have hcs : (Dk.call s [n]).1 = (Dk.events s).1 := rfl
  have hok1 := hc.ok.events
  have hec := Dk.events_calls s
  have hep := Dk.events_pend s hc.ok
  have hu1 := hok1.used
  unfold Dk.Len at hu1
  have hrm := hok1.room
  unfold Dk.Len at hrm
  rw [← hcs] at hok1 hec hep hu1 hrm
  have hc2 := hc.calls
  generalize Dk.call s [n] = r at *
  by_cases h0 : r.2.2 = 0
  · rw [if_neg (by rw [h0]; simp)]
    repeat' first | simp (disch := first | omega | assumption | decide) only [go_sem, hm, hz, ht, hr_, h0, wdl, bind_some_, map_some_, oneD_fold] | refine ifP_in (fun _ => ?_) fun _ => ?_
    refine rF_use (has_w hd1 n) ?_
    rintro _ H2 ⟨rfl, rfl⟩
    cases hh : Dk.has r.1.now n with
    | false =>
      rw [if_pos rfl]
      repeat' first | simp (disch := first | omega | assumption | decide) only [go_sem, hm, hz, ht, hr_, wdl, bind_some_, map_some_, oneD_fold] | refine ifP_in (fun _ => ?_) fun _ => ?_
      exact ⟨S1, hd1, hs1⟩
    | true =>
      rw [if_neg (by simp)]
      repeat' first | simp (disch := first | omega | assumption | decide) only [go_sem, hm, hz, ht, hr_, wdl, bind_some_, map_some_, oneD_fold] | refine ifP_in (fun _ => ?_) fun _ => ?_
      refine rF_use (does_w hd1 hok1 ⟨n, [], [], false, false⟩ (by omega) hu1 (by simp)) ?_
      rintro _ H2 ⟨rfl, S2, hd2, hs2⟩
      repeat' first | simp (disch := first | omega | assumption | decide) only [go_sem, hm, hz, ht, hr_, wdl, bind_some_, map_some_, oneD_fold] | refine ifP_in (fun _ => ?_) fun _ => ?_
      exact ⟨S2, hd2, hs1.trans hs2⟩
  · rw [if_pos h0]
    repeat' first | simp (disch := first | omega | assumption | decide) only [go_sem, hm, hz, ht, hr_, wdl, bind_some_, map_some_, oneD_fold] | refine ifP_in (fun _ => ?_) fun _ => ?_
    exact ⟨S1, hd1, hs1⟩

theorem rename_w {j : Nat} {S : List Nat} {s : Dk.Disk} (hd : DiskAt H j S s) (hc : Can s) (n m : Bs) (hn : n.length ≤ 1000000) (hm' : m.length ≤ 1000000) :
    WF Tryz.prog cfg 42 [.ptr j 0, .str n, .str m] H (fun r H' => r = .i (Dk.rename s n m).2 ∧ ∃ S', DiskAt H' j S' (Dk.rename s n m).1 ∧ Step H S H' S') := by
  have hm : ∀ d, cfg.muF 42 d = (false) := fun _ => rfl
  have hz : ∀ d, cfg.fzF 42 d = (false) := fun _ => rfl
  have ht : ∀ d, cfg.tkF 42 d = (false) := fun _ => rfl
  have hr_ : ∀ g, cfg.raw g = (g == 68) := fun _ => rfl
  refine rF_fn rfl rfl Tryz.func42 rfl ?_
  repeat' first | simp (disch := first | omega | assumption | decide) only [go_sem, hm, hz, ht, hr_, wdl, bind_some_, map_some_, oneD_fold] | refine ifP_in (fun _ => ?_) fun _ => ?_
  refine rF_use (call_w hd hc.ok hc.calls hc.plan [n, m] (by simp) (by simp; omega)) ?_
  rintro _ H1 ⟨rfl, S1, hd1, hs1⟩
  unfold Dk.rename
  have hcs : (Dk.call s [n, m]).1 = (Dk.events s).1 := rfl
  have hok1 := hc.ok.events
  have hec := Dk.events_calls s
  have hep := Dk.events_pend s hc.ok
  have hu1 := hok1.used
  unfold Dk.Len at hu1
  have hrm := hok1.room
  unfold Dk.Len at hrm
  rw [← hcs] at hok1 hec hep hu1 hrm
  have hc2 := hc.calls
  generalize Dk.call s [n, m] = r at *
  by_cases h0 : r.2.2 = 0
  · rw [if_neg (by rw [h0]; simp)]
    repeat' first | simp (disch := first | omega | assumption | decide) only [go_sem, hm, hz, ht, hr_, h0, wdl, bind_some_, map_some_, oneD_fold] | refine ifP_in (fun _ => ?_) fun _ => ?_
    refine rF_use (has_w hd1 n) ?_
    rintro _ H2 ⟨rfl, rfl⟩
    cases hh : Dk.has r.1.now n with
    | false =>
      rw [if_pos rfl]
      repeat' first | simp (disch := first | omega | assumption | decide) only [go_sem, hm, hz, ht, hr_, wdl, bind_some_, map_some_, oneD_fold] | refine ifP_in (fun _ => ?_) fun _ => ?_
      exact ⟨S1, hd1, hs1⟩
    | true =>
      rw [if_neg (by simp)]
      by_cases hnm : n = m
      · rw [if_pos hnm]
        repeat' first | simp (disch := first | omega | assumption | decide) only [go_sem, hm, hz, ht, hr_, hnm, wdl, bind_some_, map_some_, oneD_fold] | refine ifP_in (fun _ => ?_) fun _ => ?_
        exact ⟨S1, hd1, hs1⟩
      · rw [if_neg hnm]
        repeat' first | simp (disch := first | omega | assumption | decide) only [go_sem, hm, hz, ht, hr_, hnm, wdl, bind_some_, map_some_, oneD_fold] | refine ifP_in (fun _ => ?_) fun _ => ?_
        refine rF_use (does_w hd1 hok1 ⟨m, n, [], false, false⟩ (by omega) hu1 (by simp)) ?_
        rintro _ H2 ⟨rfl, S2, hd2, hs2⟩
        repeat' first | simp (disch := first | omega | assumption | decide) only [go_sem, hm, hz, ht, hr_, wdl, bind_some_, map_some_, oneD_fold] | refine ifP_in (fun _ => ?_) fun _ => ?_
        exact ⟨S2, hd2, hs1.trans hs2⟩
  · rw [if_pos h0]
    repeat' first | simp (disch := first | omega | assumption | decide) only [go_sem, hm, hz, ht, hr_, wdl, bind_some_, map_some_, oneD_fold] | refine ifP_in (fun _ => ?_) fun _ => ?_
    exact ⟨S1, hd1, hs1⟩
end Jn
end Go.Proofs
/- Walks: the disk's other calls. -/
set_option linter.unusedVariables false
set_option linter.unusedSimpArgs false
namespace Go.Proofs
open Go.Lv
namespace Jn
open Dk (Files Bs Ch Ev)
variable {H : Heap}

theorem sync_w {j : Nat} {S : List Nat} {s : Dk.Disk} (hd : DiskAt H j S s) (hc : Can s) :
    WF Tryz.prog cfg 34 [.ptr j 0] H (fun r H' => r = .i (Dk.sync s).2 ∧ ∃ S', DiskAt H' j S' (Dk.sync s).1 ∧ Step H S H' S') := by
  have hm : ∀ d, cfg.muF 34 d = (false) := fun _ => rfl
  have hz : ∀ d, cfg.fzF 34 d = (false) := fun _ => rfl
  have ht : ∀ d, cfg.tkF 34 d = (false) := fun _ => rfl
  have hr_ : ∀ g, cfg.raw g = (g == 68) := fun _ => rfl
  refine rF_fn rfl rfl Tryz.func34 rfl ?_
  repeat' first | simp (disch := first | omega | assumption | decide) only [go_sem, hm, hz, ht, hr_, wdl, bind_some_, map_some_, oneD_fold] | refine ifP_in (fun _ => ?_) fun _ => ?_
  refine rF_use (call_w hd hc.ok hc.calls hc.plan [] (by simp) (by simp)) ?_
  rintro _ H1 ⟨rfl, S1, hd1, hs1⟩
  unfold Dk.sync
  have hcs : (Dk.call s []).1 = (Dk.events s).1 := rfl
  have hok1 := hc.ok.events
  have hec := Dk.events_calls s
  have hep := Dk.events_pend s hc.ok
  have hu1 := hok1.used
  unfold Dk.Len at hu1
  have hrm := hok1.room
  unfold Dk.Len at hrm
  rw [← hcs] at hok1 hec hep hu1 hrm
  have hc2 := hc.calls
  generalize Dk.call s [] = r at *
  by_cases h0 : r.2.2 = 0
  · rw [if_neg (by rw [h0]; simp)]
    obtain ⟨a, b, pa, pl, hr, rfl⟩ := hd1
    have hlt := DiskAt.lt ⟨a, b, pa, pl, hr, rfl⟩
    have hj := hr.hj
    have hjl := hlt j (by simp)
    have hal := hlt a (by simp)
    have hja : j ≠ a := by rintro rfl; have h1 := hr.ha; rw [hj] at h1; cases h1
    repeat' first | simp (disch := first | omega | assumption | decide) only [go_sem, hm, hz, ht, hr_, h0, hj, wdl, bind_some_, map_some_, oneD_fold] | refine ifP_in (fun _ => ?_) fun _ => ?_
    refine rF_use (copied_w hr.ha) ?_
    rintro _ K3 ⟨rfl, rfl⟩
    have kj2 : (H1 ++ [filesA r.1.now])[j]? = some [.i r.1.room, .mp a, .mp b, pa, pl, .i r.1.calls, .b r.1.down] := by rw [get_old_ hjl]; exact hj
    have ka2 : (H1 ++ [filesA r.1.now])[a]? = some (filesA r.1.now) := by rw [get_old_ hal]; exact hr.ha
    have kn2 : (H1 ++ [filesA r.1.now])[H1.length]? = some (filesA r.1.now) := get_end_ _
    have kl2 : (H1 ++ [filesA r.1.now]).length = H1.length + 1 := by simp
    have ks2 : ∀ x, x < H1.length → (H1 ++ [filesA r.1.now])[x]? = H1[x]? := fun x hx => get_old_ hx
    generalize H1 ++ [filesA r.1.now] = K4 at kj2 ka2 kn2 kl2 ks2 ⊢
    have hjn : j ≠ H1.length := by omega
    repeat' first | simp (disch := first | omega | assumption | decide) only [go_sem, hm, hz, ht, hr_, kj2, h0, wdl, bind_some_, map_some_, oneD_fold] | refine ifP_in (fun _ => ?_) fun _ => ?_
    simp only [List.set_set]
    refine ⟨_, ⟨a, H1.length, nilA, pl, ⟨get_set (by omega), ?_, ?_, by omega, TokOf.nil, hr.plan⟩, rfl⟩, hs1.trans ⟨by simp; omega, fun x hx hS => ?_, fun x hx => ?_⟩⟩
    · rw [get_set_ne_ hja]; exact ka2
    · rw [get_set_ne_ hjn]; exact kn2
    · simp only [List.mem_cons, not_or] at hS
      rw [get_set_ne_ (fun h => hS.1 h.symm)]
      exact ks2 x hx
    · simp only [tokP_nil, List.mem_cons, List.not_mem_nil, or_false] at hx
      rcases hx with rfl | rfl | rfl
      · exact .inl (by simp)
      · exact .inl (by simp)
      · exact .inr (Nat.le_refl _)
  · rw [if_pos h0]
    repeat' first | simp (disch := first | omega | assumption | decide) only [go_sem, hm, hz, ht, hr_, h0, wdl, bind_some_, map_some_, oneD_fold] | refine ifP_in (fun _ => ?_) fun _ => ?_
    exact ⟨S1, hd1, hs1⟩

theorem peek_w {j : Nat} {S : List Nat} {s : Dk.Disk} (hd : DiskAt H j S s) (hu : Dk.used s.now ≤ 1073741824) (n : Bs) : WF Tryz.prog cfg 66 [.ptr j 0, .str n] H (fun r H' => r = .tup [.sl ((Dk.data s.now n).map byteA), .b (Dk.has s.now n)] ∧ H' = H) := by
  obtain ⟨a, b, pa, pl, hr, rfl⟩ := hd
  have hj := hr.hj
  have hdl := Dk.data_le s.now n
  have hl2 : lookupA Tryz.prog H 62 (.mp a) (AV.str n) true = some (.tup [.sl ((Dk.data s.now n).map byteA), .b (Dk.has s.now n)]) := lookup2_files (kt := 9) (et := 38) zeroV_bytes hr.ha
  have hm : ∀ d, cfg.muF 66 d = (false) := fun _ => rfl
  have hz : ∀ d, cfg.fzF 66 d = (false) := fun _ => rfl
  have ht : ∀ d, cfg.tkF 66 d = (false) := fun _ => rfl
  have hr_ : ∀ g, cfg.raw g = (g == 68) := fun _ => rfl
  refine rF_fn rfl rfl Tryz.func66 rfl ?_
  repeat' first | simp (disch := first | omega | assumption | decide) only [go_sem, hm, hz, ht, hr_, hj, hl2, wdl, bind_some_, map_some_, oneD_fold] | refine ifP_in (fun _ => ?_) fun _ => ?_
  refine rF_use (clone_w (Dk.data s.now n) (by omega) (.inl rfl)) ?_
  rintro _ H1 ⟨rfl, rfl⟩
  repeat' first | simp (disch := first | omega | assumption | decide) only [go_sem, hm, hz, ht, hr_, wdl, bind_some_, map_some_, oneD_fold] | refine ifP_in (fun _ => ?_) fun _ => ?_

theorem read_w {j : Nat} {S : List Nat} {s : Dk.Disk} (hd : DiskAt H j S s) (hc : Can s) (n : Bs) (hn : n.length ≤ 1000000) :
    WF Tryz.prog cfg 26 [.ptr j 0, .str n] H (fun r H' => r = .tup [.sl ((Dk.read s n).2.1.map byteA), .i (Dk.read s n).2.2] ∧ ∃ S', DiskAt H' j S' (Dk.read s n).1 ∧ Step H S H' S') := by
  have hm : ∀ d, cfg.muF 26 d = (false) := fun _ => rfl
  have hz : ∀ d, cfg.fzF 26 d = (false) := fun _ => rfl
  have ht : ∀ d, cfg.tkF 26 d = (false) := fun _ => rfl
  have hr_ : ∀ g, cfg.raw g = (g == 68) := fun _ => rfl
  refine rF_fn rfl rfl Tryz.func26 rfl ?_
  repeat' first | simp (disch := first | omega | assumption | decide) only [go_sem, hm, hz, ht, hr_, wdl, bind_some_, map_some_, oneD_fold] | refine ifP_in (fun _ => ?_) fun _ => ?_
  refine rF_use (call_w hd hc.ok hc.calls hc.plan [n] (by simp) (by simp; omega)) ?_
  rintro _ H1 ⟨rfl, S1, hd1, hs1⟩
  unfold Dk.read
  have hcs : (Dk.call s [n]).1 = (Dk.events s).1 := rfl
  have hok1 := hc.ok.events
  have hec := Dk.events_calls s
  have hep := Dk.events_pend s hc.ok
  have hu1 := hok1.used
  unfold Dk.Len at hu1
  have hrm := hok1.room
  unfold Dk.Len at hrm
  rw [← hcs] at hok1 hec hep hu1 hrm
  have hc2 := hc.calls
  generalize Dk.call s [n] = r at *
  by_cases h0 : r.2.2 = 0
  · rw [if_neg (by rw [h0]; simp)]
    repeat' first | simp (disch := first | omega | assumption | decide) only [go_sem, hm, hz, ht, hr_, h0, wdl, bind_some_, map_some_, oneD_fold] | refine ifP_in (fun _ => ?_) fun _ => ?_
    refine rF_use (peek_w hd1 hu1 n) ?_
    rintro _ H2 ⟨rfl, rfl⟩
    cases hg : Dk.get r.1.now n with
    | none =>
      have hh : Dk.has r.1.now n = false := by unfold Dk.has; rw [hg]; rfl
      rw [hh]
      repeat' first | simp (disch := first | omega | assumption | decide) only [go_sem, hm, hz, ht, hr_, wdl, bind_some_, map_some_, oneD_fold] | refine ifP_in (fun _ => ?_) fun _ => ?_
      exact ⟨S1, hd1, hs1⟩
    | some b =>
      have hh : Dk.has r.1.now n = true := by unfold Dk.has; rw [hg]; rfl
      have hb : Dk.data r.1.now n = b := by unfold Dk.data; rw [hg]; rfl
      rw [hh, hb]
      repeat' first | simp (disch := first | omega | assumption | decide) only [go_sem, hm, hz, ht, hr_, wdl, bind_some_, map_some_, oneD_fold] | refine ifP_in (fun _ => ?_) fun _ => ?_
      exact ⟨S1, hd1, hs1⟩
  · rw [if_pos h0]
    repeat' first | simp (disch := first | omega | assumption | decide) only [go_sem, hm, hz, ht, hr_, wdl, bind_some_, map_some_, oneD_fold] | refine ifP_in (fun _ => ?_) fun _ => ?_
    exact ⟨S1, hd1, hs1⟩

/-- Writing one field of the disk. -/
theorem disk_set {j a b : Nat} {pa pl pl' : AV} {s s' : Dk.Disk} (hr : DiskR H j a b pa pl s) (h1 : s'.now = s.now) (h2 : s'.dur = s.dur) (h3 : s'.pend = s.pend) (hp : PlanOf pl' s'.plan) :
    DiskAt (H.set j [.i s'.room, .mp a, .mp b, pa, pl', .i s'.calls, .b s'.down]) j (j :: a :: b :: tokP pa) s' ∧ Step H (j :: a :: b :: tokP pa) (H.set j [.i s'.room, .mp a, .mp b, pa, pl', .i s'.calls, .b s'.down]) (j :: a :: b :: tokP pa) := by
  have hjl : j < H.length := (List.getElem?_eq_some_iff.1 hr.hj).1
  have hja : j ≠ a := by rintro rfl; have h := hr.hj; rw [hr.ha] at h; cases h
  have hjb : j ≠ b := by rintro rfl; have h := hr.hj; rw [hr.hb] at h; cases h
  refine ⟨⟨a, b, pa, pl', ⟨get_set hjl, ?_, ?_, hr.ab, ?_, hp⟩, rfl⟩, ⟨by simp, fun i hi hS => by rw [get_set_ne_ (fun h => hS (by simp [h]))], fun x hx => .inl hx⟩⟩
  · rw [get_set_ne_ hja, h1]; exact hr.ha
  · rw [get_set_ne_ hjb, h2]; exact hr.hb
  · rw [h3]
    rcases hr.pend with h | ⟨k, h1, rfl, h3, h4⟩
    · exact .inl h
    · have hjk : j ≠ k := by rintro rfl; have h1 := hr.hj; rw [h3] at h1; cases h1
      exact .inr ⟨k, h1, rfl, by rw [get_set_ne_ hjk]; exact h3, h4⟩

theorem reboot_w {j : Nat} {S : List Nat} {s : Dk.Disk} (hd : DiskAt H j S s) : WF Tryz.prog cfg 23 [.ptr j 0] H (fun r H' => r = .tup [] ∧ ∃ S', DiskAt H' j S' { s with down := false } ∧ Step H S H' S') := by
  obtain ⟨a, b, pa, pl, hr, rfl⟩ := hd
  have hj := hr.hj
  have hm : ∀ d, cfg.muF 23 d = (false) := fun _ => rfl
  have hz : ∀ d, cfg.fzF 23 d = (false) := fun _ => rfl
  have ht : ∀ d, cfg.tkF 23 d = (false) := fun _ => rfl
  have hr_ : ∀ g, cfg.raw g = (g == 68) := fun _ => rfl
  refine rF_fn rfl rfl Tryz.func23 rfl ?_
  repeat' first | simp (disch := first | omega | assumption | decide) only [go_sem, hm, hz, ht, hr_, hj, wdl, bind_some_, map_some_, oneD_fold] | refine ifP_in (fun _ => ?_) fun _ => ?_
  obtain ⟨h1, h2⟩ := disk_set (s' := { s with down := false }) hr rfl rfl rfl hr.plan
  exact ⟨_, h1, h2⟩
theorem resize_w {j : Nat} {S : List Nat} {s : Dk.Disk} (hd : DiskAt H j S s) (room : Int) : WF Tryz.prog cfg 55 [.ptr j 0, .i room] H (fun r H' => r = .b (decide (0 ≤ room ∧ room ≤ 1073741824)) ∧ ∃ S', DiskAt H' j S' (if 0 ≤ room ∧ room ≤ 1073741824 then { s with room := room } else s) ∧ Step H S H' S') := by
  obtain ⟨a, b, pa, pl, hr, rfl⟩ := hd
  have hj := hr.hj
  have hm : ∀ d, cfg.muF 55 d = (false) := fun _ => rfl
  have hz : ∀ d, cfg.fzF 55 d = (false) := fun _ => rfl
  have ht : ∀ d, cfg.tkF 55 d = (false) := fun _ => rfl
  have hr_ : ∀ g, cfg.raw g = (g == 68) := fun _ => rfl
  refine rF_fn rfl rfl Tryz.func55 rfl ?_
  by_cases h0 : room < 0
  · repeat' first | simp (disch := first | omega | assumption | decide) only [go_sem, hm, hz, ht, hr_, hj, wdl, bind_some_, map_some_, oneD_fold] | refine ifP_in (fun _ => ?_) fun _ => ?_
    rw [decide_eq_false (by omega), if_neg (by omega)]
    exact ⟨rfl, _, ⟨a, b, pa, pl, hr, rfl⟩, Step.refl _ _⟩
  · by_cases h1 : 1073741824 < room
    · repeat' first | simp (disch := first | omega | assumption | decide) only [go_sem, hm, hz, ht, hr_, hj, wdl, bind_some_, map_some_, oneD_fold] | refine ifP_in (fun _ => ?_) fun _ => ?_
      rw [decide_eq_false (by omega), if_neg (by omega)]
      exact ⟨rfl, _, ⟨a, b, pa, pl, hr, rfl⟩, Step.refl _ _⟩
    · repeat' first | simp (disch := first | omega | assumption | decide) only [go_sem, hm, hz, ht, hr_, hj, wdl, bind_some_, map_some_, oneD_fold] | refine ifP_in (fun _ => ?_) fun _ => ?_
      obtain ⟨h1, h2⟩ := disk_set (s' := { s with room := room }) hr rfl rfl rfl hr.plan
      rw [decide_eq_true (by omega), if_pos (by omega)]
      exact ⟨rfl, _, h1, h2⟩
theorem calls_w {j : Nat} {S : List Nat} {s : Dk.Disk} (hd : DiskAt H j S s) : WF Tryz.prog cfg 22 [.ptr j 0] H (fun r H' => r = .i s.calls ∧ H' = H) := by
  obtain ⟨a, b, pa, pl, hj⟩ := hd.cells
  have hm : ∀ d, cfg.muF 22 d = (false) := fun _ => rfl
  have hz : ∀ d, cfg.fzF 22 d = (false) := fun _ => rfl
  have ht : ∀ d, cfg.tkF 22 d = (false) := fun _ => rfl
  have hr_ : ∀ g, cfg.raw g = (g == 68) := fun _ => rfl
  refine rF_fn rfl rfl Tryz.func22 rfl ?_
  repeat' first | simp (disch := first | omega | assumption | decide) only [go_sem, hm, hz, ht, hr_, hj, wdl, bind_some_, map_some_, oneD_fold] | refine ifP_in (fun _ => ?_) fun _ => ?_
theorem up_w {j : Nat} {S : List Nat} {s : Dk.Disk} (hd : DiskAt H j S s) : WF Tryz.prog cfg 62 [.ptr j 0] H (fun r H' => r = .b (!s.down) ∧ H' = H) := by
  obtain ⟨a, b, pa, pl, hj⟩ := hd.cells
  have hm : ∀ d, cfg.muF 62 d = (false) := fun _ => rfl
  have hz : ∀ d, cfg.fzF 62 d = (false) := fun _ => rfl
  have ht : ∀ d, cfg.tkF 62 d = (false) := fun _ => rfl
  have hr_ : ∀ g, cfg.raw g = (g == 68) := fun _ => rfl
  refine rF_fn rfl rfl Tryz.func62 rfl ?_
  repeat' first | simp (disch := first | omega | assumption | decide) only [go_sem, hm, hz, ht, hr_, hj, wdl, bind_some_, map_some_, oneD_fold] | refine ifP_in (fun _ => ?_) fun _ => ?_
theorem new_bad (room : Int) (hg : ¬ (0 ≤ room ∧ room ≤ 1073741824)) : WF Tryz.prog cfg 6 [.i room] H (fun r H' => r = .tup [.v (.pointer none), .i 1] ∧ H' = H) := by
  have hm : ∀ d, cfg.muF 6 d = (false) := fun _ => rfl
  have hz : ∀ d, cfg.fzF 6 d = (false) := fun _ => rfl
  have ht : ∀ d, cfg.tkF 6 d = (false) := fun _ => rfl
  have hr_ : ∀ g, cfg.raw g = (g == 68) := fun _ => rfl
  refine rF_fn rfl rfl Tryz.func6 rfl ?_
  by_cases h0 : room < 0
  · repeat' first | simp (disch := first | omega | assumption | decide) only [go_sem, hm, hz, ht, hr_, wdl, bind_some_, map_some_, oneD_fold] | refine ifP_in (fun _ => ?_) fun _ => ?_
  · repeat' first | simp (disch := first | omega | assumption | decide) only [go_sem, hm, hz, ht, hr_, wdl, bind_some_, map_some_, oneD_fold] | refine ifP_in (fun _ => ?_) fun _ => ?_
theorem onlyD_one {l : List AV} {α : Type} {r : α} : onlyD (l.all AV.one) r = oneD l r := by unfold oneD; cases l.all AV.one <;> rfl
theorem new_w (room : Int) (hg : 0 ≤ room ∧ room ≤ 1073741824) : WF Tryz.prog cfg 6 [.i room] H (fun r H' => r = .tup [.ptr (H.length + 2) 0, .i 0] ∧ (∃ S', DiskAt H' (H.length + 2) S' ⟨room, [], [], [], [], 0, false⟩ ∧ ∀ x ∈ S', H.length ≤ x) ∧ H <+: H') := by
  have hm : ∀ d, cfg.muF 6 d = (false) := fun _ => rfl
  have hz : ∀ d, cfg.fzF 6 d = (false) := fun _ => rfl
  have ht : ∀ d, cfg.tkF 6 d = (false) := fun _ => rfl
  have hr_ : ∀ g, cfg.raw g = (g == 68) := fun _ => rfl
  refine rF_fn rfl rfl Tryz.func6 rfl ?_
  repeat' first | simp (disch := first | omega | assumption | decide) only [go_sem, hm, hz, ht, hr_, mapTy_is, onlyD_one, wdl, bind_some_, map_some_, oneD_fold] | refine ifP_in (fun _ => ?_) fun _ => ?_
  refine ⟨⟨_, ⟨H.length, H.length + 1, nilA, nilA, ⟨?_, ?_, ?_, by omega, TokOf.nil, .inl ⟨rfl, rfl⟩⟩, rfl⟩, fun x hx => ?_⟩, ?_⟩
  · rw [List.getElem?_append_right (by simp)]
    simp
  · rw [List.getElem?_append_left (by first | (simp; done) | (simp; omega)), List.getElem?_append_left (by simp)]; exact end_get _ _
  · rw [List.getElem?_append_left (by simp), List.getElem?_append_right (by simp)]; simp; rfl
  · simp only [tokP_nil, List.mem_cons, List.not_mem_nil, or_false] at hx
    omega
  · rw [List.append_assoc, List.append_assoc]; exact List.prefix_append _ _

theorem plan_w {j : Nat} {S : List Nat} {s : Dk.Disk} (hd : DiskAt H j S s) (l : List Ev) (hl : l.length < 1000000) {x : AV} (hx : TokOf evA 4 0 H x l ∨ x = .sl (l.map evA)) : WF Tryz.prog cfg 21 [.ptr j 0, plainA x] H (fun r H' => r = .tup [] ∧ ∃ S', DiskAt H' j S' { s with plan := l } ∧ Step H S H' S') := by
  have hpx : plainA x = .sl (l.map evA) := by
    rcases hx with h | rfl
    · exact h.plain
    · rfl
  rw [hpx]
  obtain ⟨a, b, pa, pl, hr, rfl⟩ := hd
  have hj := hr.hj
  have hjl : j < H.length := (List.getElem?_eq_some_iff.1 hj).1
  have hm : ∀ d, cfg.muF 21 d = (false) := fun _ => rfl
  have hz : ∀ d, cfg.fzF 21 d = (false) := fun _ => rfl
  have ht : ∀ d, cfg.tkF 21 d = (false) := fun _ => rfl
  have hr_ : ∀ g, cfg.raw g = (g == 68) := fun _ => rfl
  refine rF_fn rfl rfl Tryz.func21 rfl ?_
  repeat' first | simp (disch := first | omega | assumption | decide) only [go_sem, hm, hz, ht, hr_, hj, wdl, bind_some_, map_some_, oneD_fold] | refine ifP_in (fun _ => ?_) fun _ => ?_
  rcases Nat.eq_zero_or_pos l.length with h0 | h0
  · have hn : l = [] := List.eq_nil_of_length_eq_zero h0
    subst hn
    refine rF_use (R := fun r H' => r = .sl [] ∧ H' = H) (WF.ext (g := fun args H => cloneT 4 32 H args) rfl (r := .sl []) (H' := H) ?_ ⟨rfl, rfl⟩) ?_
    · show cloneT 4 32 H [.sl []] = _
      unfold cloneT
      simp
    rintro _ H1 ⟨rfl, rfl⟩
    repeat' first | simp (disch := first | omega | assumption | decide) only [go_sem, hm, hz, ht, hr_, hj, wdl, bind_some_, map_some_, oneD_fold] | refine ifP_in (fun _ => ?_) fun _ => ?_
    obtain ⟨h1, h2⟩ := disk_set (s' := { s with plan := [] }) (pl' := .sl []) hr rfl rfl rfl (.inr (.inl ⟨rfl, rfl⟩))
    exact ⟨_, h1, h2⟩
  · refine rF_use (R := fun r H' => r = .ow (l.map evA) H.length ∧ H' = H ++ [[.tk (l.length * 4)]]) (WF.ext (g := fun args H => cloneT 4 32 H args) rfl (r := .ow (l.map evA) H.length) (H' := H ++ [[.tk (l.length * 4)]]) ?_ ⟨rfl, rfl⟩) ?_
    · show cloneT 4 32 H [.sl (l.map evA)] = _
      unfold cloneT
      simp only [List.length_map]
      rw [if_pos ⟨by omega, by omega, map_cells l, by omega⟩, if_pos h0]
    rintro _ H1 ⟨rfl, rfl⟩
    have g2 : ∀ y, y < H.length → (H ++ [[.tk (l.length * 4)]])[y]? = H[y]? := fun y hy => get_old_ hy
    have hd1 := DiskAt.grew ⟨a, b, pa, pl, hr, rfl⟩ g2
    have hs1 : Step H (j :: a :: b :: tokP pa) (H ++ [[.tk (l.length * 4)]]) (j :: a :: b :: tokP pa) := Step.grew (by simp) g2
    have hj1 : (H ++ [[.tk (l.length * 4)]])[j]? = some [.i s.room, .mp a, .mp b, pa, pl, .i s.calls, .b s.down] := by rw [g2 j hjl]; exact hj
    have hr1 : DiskR (H ++ [[.tk (l.length * 4)]]) j a b pa pl s := by
      refine ⟨hj1, ?_, ?_, hr.ab, ?_, hr.plan⟩
      · rw [g2 a (List.getElem?_eq_some_iff.1 hr.ha).1]; exact hr.ha
      · rw [g2 b (List.getElem?_eq_some_iff.1 hr.hb).1]; exact hr.hb
      · exact hr.pend.pre (List.prefix_append _ _)
    generalize H ++ [[.tk (l.length * 4)]] = H1 at *
    repeat' first | simp (disch := first | omega | assumption | decide) only [go_sem, hm, hz, ht, hr_, hj1, wdl, bind_some_, map_some_, oneD_fold] | refine ifP_in (fun _ => ?_) fun _ => ?_
    obtain ⟨h1, h2⟩ := disk_set (s' := { s with plan := l }) (pl' := .ow (l.map evA) H.length) hr1 rfl rfl rfl (.inr (.inr ⟨h0, _, rfl⟩))
    exact ⟨_, h1, hs1.trans h2⟩
end Jn
end Go.Proofs
