/- Walks: hosts. -/
import Derived.Test.YtkbfklckeloamaaGreatDoorHoAllax1
import Derived.Test.YtkbfklckeloamaaGreatDoorIdRe
set_option linter.unusedVariables false
set_option linter.unusedSimpArgs false
namespace Go.Proofs
open Go.Lv
namespace Hs
open Pu Ut Utf In
variable {H : Heap}
def hcells (k : Int) (n : List UInt8) (v : Int) (l : List Int) : List AV := [.i k, .str n, .v (.int .u32 v)] ++ l.map uA
def hz0 : List AV := hcells 0 [] 0 (Ho.zeros 8)
def brk (s : List UInt8) : List AV × Int :=
  if s.length < 2 ∨ s.getD (s.length - 1) 0 ≠ 93 then (hz0, 4)
  else if (Ho.p6 ((s.take (s.length - 1)).drop 1)).2 ≠ 0 then (hz0, (Ho.p6 ((s.take (s.length - 1)).drop 1)).2)
  else (hcells 3 [] 0 (Ho.p6 ((s.take (s.length - 1)).drop 1)).1, 0)
theorem ZH : [AV.i 0, AV.str [], AV.v (.int .u32 0), AV.v (.int .u16 0), AV.v (.int .u16 0), AV.v (.int .u16 0), AV.v (.int .u16 0), AV.v (.int .u16 0), AV.v (.int .u16 0), AV.v (.int .u16 0), AV.v (.int .u16 0)] = hz0 := rfl
theorem ZH2 : (AV.v (.int .i64 0) :: AV.str [] :: AV.v (.int .u32 0) :: List.map uA (Ho.zeros 8)) = hz0 := rfl
theorem hcells_len {k v : Int} {n : List UInt8} {l : List Int} (h : l.length = 8) : (hcells k n v l).length = 11 := by simp [hcells, h]
theorem hcells_one {k v : Int} {n : List UInt8} {l : List Int} : (hcells k n v l).all AV.one = true := by
  unfold hcells
  rw [List.all_append, one_u]; rfl
section
variable {P : Program} {xs ys : List AV} {t : TypeId} {T : Heap}
theorem storeH [h1 : SizeIs P t 11] (hx : xs.length = 11) (hxo : xs.all AV.one = true) (hy : ys.length = 11) (hyo : ys.all AV.one = true) : storeC P t (H ++ [xs] ++ T) H.length 0 (.agg ys) xs = some (H ++ [ys] ++ T) := by
  unfold storeC
  simp only [h1.h, Option.bind_some]
  rw [if_pos ⟨hy, hyo, by omega, by omega, plainRow_one hxo⟩]
  simp [AV.cells, hx]
theorem storeH1 [h1 : SizeIs P t 11] (hx : xs.length = 11) (hxo : xs.all AV.one = true) (hy : ys.length = 11) (hyo : ys.all AV.one = true) : storeC P t (H ++ [xs]) H.length 0 (.agg ys) xs = some (H ++ [ys]) := by
  have := storeH (H := H) (T := []) (P := P) (t := t) hx hxo hy hyo
  simpa using this
theorem storeH2 [h1 : SizeIs P t 11] {U : Heap} (hx : xs.length = 11) (hxo : xs.all AV.one = true) (hy : ys.length = 11) (hyo : ys.all AV.one = true) : storeC P t (H ++ [xs] ++ T ++ U) H.length 0 (.agg ys) xs = some (H ++ [ys] ++ T ++ U) := by
  have := storeH (H := H) (T := T ++ U) (P := P) (t := t) hx hxo hy hyo
  simpa using this
theorem gH2 {U : Heap} : (H ++ [xs] ++ T ++ U)[H.length]? = some xs := by simp
theorem preH2 {U : Heap} : H <+: H ++ [xs] ++ T ++ U := ⟨[xs] ++ T ++ U, by simp⟩
theorem store8e [h1 : SizeIs P t 8] {K : Heap} {us vs : List Int} (hu : us.length = 8) (hv : vs.length = 8) : storeC P t (K ++ [us.map uA]) K.length 0 (.agg (vs.map uA)) (us.map uA) = some (K ++ [vs.map uA]) := by
  unfold storeC
  simp only [h1.h, Option.bind_some]
  rw [if_pos ⟨by simp [AV.cells, hv], one_u, by simp [hu], by omega, plainRow_one one_u⟩]
  simp [AV.cells, hu]
theorem build3 {l : List Int} (hl : l.length = 8) : partD1 [(0, 1), (1, 1), (2, 1), (3, 8)] hz0 0 (.v (.int .i64 3)) [(3, .agg (l.map uA))] = some (hcells 3 [] 0 l) := by
  have ho := one_u (vs := l)
  show (if 0 < hz0.length then fillD [(0, 1), (1, 1), (2, 1), (3, 8)] (hz0.set 0 (.v (.int .i64 3))) [(3, .agg (l.map uA))] else none) = _
  rw [if_pos (by decide)]
  simp only [fillD, List.getElem?_cons_succ, List.getElem?_cons_zero]
  rw [if_pos ⟨by simp [AV.cells, hl], ho, by decide⟩, show List.drop (3 + 8) (hz0.set 0 (AV.v (.int .i64 3))) = [] from rfl, List.append_nil]
  rfl
theorem build1 {k : Int} {n : List UInt8} : partD1 [(0, 1), (1, 1), (2, 1), (3, 8)] hz0 0 (.v (.int .i64 k)) [(1, .str n)] = some (hcells k n 0 (Ho.zeros 8)) := rfl
theorem build2 {k v : Int} : partD1 [(0, 1), (1, 1), (2, 1), (3, 8)] hz0 0 (.v (.int .i64 k)) [(2, .v (.int .u32 v))] = some (hcells k [] v (Ho.zeros 8)) := rfl
theorem load11 (hx : xs.length = 11) (hxo : xs.all AV.one = true) : plainD xs (if 11 ≤ xs.length then some (AV.agg (xs.take 11)) else none) = some (.agg xs) := by
  unfold plainD
  rw [if_pos (plainRow_one hxo), if_pos (by omega), List.take_of_length_le (by omega)]
theorem gH : (H ++ [xs] ++ T)[H.length]? = some xs := by simp
theorem preH : H <+: H ++ [xs] ++ T := ⟨[xs] ++ T, by simp⟩
theorem preH1 : H <+: H ++ [xs] := ⟨[xs], rfl⟩
theorem z0l : hz0.length = 11 := rfl
theorem z0o : hz0.all AV.one = true := rfl
end
theorem parse6_len (s : List UInt8) : (Ho.p6 s).1.length = 8 := by
  unfold Ho.p6
  split
  · rfl
  · split
    · rename_i h; exact Ho.b6_len h
    · rfl
theorem brackets_w (s : List UInt8) (hs : s.length ≤ 1000000) : WF Tryz.prog cfg 9 [.str s] H (fun r H' => r = .tup [.agg (brk s).1, .i (brk s).2] ∧ H <+: H') := by
  have hm : ∀ d, cfg.muF 9 d = (false) := fun _ => rfl
  have hz : ∀ d, cfg.fzF 9 d = (false) := fun _ => rfl
  have ht : ∀ d, cfg.tkF 9 d = (false) := fun _ => rfl
  have hr_ : ∀ g, cfg.raw g = (g == 119 || g == 96) := fun _ => rfl
  refine rF_fn rfl rfl Tryz.func9 rfl ?_
  have hb : brk s = if s.length < 2 ∨ s.getD (s.length - 1) 0 ≠ 93 then (hz0, 4)
    else if (Ho.p6 ((s.take (s.length - 1)).drop 1)).2 ≠ 0 then (hz0, (Ho.p6 ((s.take (s.length - 1)).drop 1)).2)
    else (hcells 3 [] 0 (Ho.p6 ((s.take (s.length - 1)).drop 1)).1, 0) := rfl
  rw [hb]
  by_cases h2 : s.length < 2
  · rw [if_pos (.inl h2)]
    have z0l := z0l
    have z0o := z0o
    repeat' first | simp (disch := first | omega | assumption | decide) only [go_sem, hm, hz, ht, hr_, ZH, storeH1, load11, store_ptr, get_end_, get_old_, get_set_self_, get_set_ne_, len_set_, len_add_, bind_some_, map_some_, oneD_fold] | refine ifP_in (fun _ => ?_) fun _ => ?_
    exact preH1
  · have hil : ix s ((s.length : Int) - 1) = s.getD (s.length - 1) 0 := by
      rw [show ((s.length : Int) - 1) = ((s.length - 1 : Nat) : Int) by omega]
      exact ix_get (by omega)
    have htn : ((s.length : Int) - 1).toNat = s.length - 1 := by omega
    generalize s.getD (s.length - 1) 0 = z at *
    by_cases h93 : z = 93
    · subst h93
      rw [if_neg (by simp; omega)]
      have h6l := parse6_len ((s.take (s.length - 1)).drop 1)
      have z0l := z0l
      have z0o := z0o
      repeat' first | simp (disch := first | omega | assumption | decide) only [go_sem, hm, hz, ht, hr_, hil, htn, ZH, store_ptr, get_end_, get_old_, get_set_self_, get_set_ne_, len_set_, len_add_, bind_some_, map_some_, oneD_fold] | refine ifP_in (fun _ => ?_) fun _ => ?_
      refine rF_use (parse6_w _ (by simp; omega)) ?_
      rintro _ H1 ⟨rfl, T, rfl⟩
      generalize (Ho.p6 ((s.take (s.length - 1)).drop 1)).1 = l at *
      generalize (Ho.p6 ((s.take (s.length - 1)).drop 1)).2 = er at *
      by_cases h0 : er = 0
      · subst h0
        rw [if_neg (by simp)]
        have z8 : (Ho.zeros 8).length = 8 := rfl
        have hcl := hcells_len (k := 3) (n := []) (v := 0) h6l
        have hco := hcells_one (k := 3) (n := []) (v := 0) (l := l)
        repeat' first | simp (disch := first | omega | assumption | decide) only [go_sem, hm, hz, ht, hr_, ZH, ZZ, ZH2, storeH2, load11, gH2, store8e, load8, build3, store_ptr, get_end_, get_old_, get_set_self_, get_set_ne_, len_set_, len_add_, bind_some_, map_some_, oneD_fold] | refine ifP_in (fun _ => ?_) fun _ => ?_
        exact preH2
      · rw [if_pos h0]
        have z8 : (Ho.zeros 8).length = 8 := rfl
        repeat' first | simp (disch := first | omega | assumption | decide) only [go_sem, hm, hz, ht, hr_, ZH, ZZ, ZH2, storeH2, load11, gH2, store8e, load8, store_ptr, get_end_, get_old_, get_set_self_, get_set_ne_, len_set_, len_add_, bind_some_, map_some_, oneD_fold] | refine ifP_in (fun _ => ?_) fun _ => ?_
        exact preH2
    · have hzn : ¬ ((z.toNat : Int) = 93) := fun h => h93 (UInt8.toNat.inj (by simpa using (by omega : z.toNat = 93)))
      rw [if_pos (.inr h93)]
      have z0l := z0l
      have z0o := z0o
      repeat' first | simp (disch := first | omega | assumption | decide) only [go_sem, hm, hz, ht, hr_, hil, htn, ZH, storeH1, load11, store_ptr, get_end_, get_old_, get_set_self_, get_set_ne_, len_set_, len_add_, bind_some_, map_some_, oneD_fold] | refine ifP_in (fun _ => ?_) fun _ => ?_
      exact preH1
def dom (s : List UInt8) : List AV × Int :=
  if (Id.toASCII (Ho.lossy (Ho.dec s))).2 ≠ 0 then (hz0, (Id.toASCII (Ho.lossy (Ho.dec s))).2)
  else if (Id.toASCII (Ho.lossy (Ho.dec s))).1 = [] then (hz0, 6)
  else if bad (Id.toASCII (Ho.lossy (Ho.dec s))).1 = true ∨ lows (Id.toASCII (Ho.lossy (Ho.dec s))).1 = true then (hz0, 4)
  else if Ho.ends (Id.toASCII (Ho.lossy (Ho.dec s))).1 = false then (hcells 1 (Id.toASCII (Ho.lossy (Ho.dec s))).1 0 (Ho.zeros 8), 0)
  else if (Ho.p4 8589934592 (Id.toASCII (Ho.lossy (Ho.dec s))).1).2 ≠ 0 then (hz0, (Ho.p4 8589934592 (Id.toASCII (Ho.lossy (Ho.dec s))).1).2)
  else (hcells 2 [] (IntKind.u32.wrap (Ho.p4 8589934592 (Id.toASCII (Ho.lossy (Ho.dec s))).1).1) (Ho.zeros 8), 0)
theorem dec_be (s : List UInt8) (hs : s.length ≤ 1000000) {Q : K (AV → Heap → Prop)} : @rF Tryz.prog cfg 26 [.str s] H Q = Q.v (.sl ((Ho.dec s).map byteA)) H := rF_eq (dec_b s hs)
theorem lossy_e (b : List UInt8) (hb : b.length ≤ 1000000) {Q : K (AV → Heap → Prop)} : @rF Tryz.prog cfg 25 [.sl (b.map byteA)] H Q = Q.v (.sl ((Ho.lossy b).map iA)) H := rF_eq (lossy_w b hb)
theorem ascii_len (l : List Int) : (Id.toASCII l).1.length ≤ 253 := by
  have hta : Id.toASCII l = (if 256 < l.length then ([], 11)
  else if (Id.mapG l).2.2 = false then ([], 4)
  else if (Id.labels (Sp.split 46 (Id.mapG l).1)).2 ≠ 0 then ([], (Id.labels (Sp.split 46 (Id.mapG l).1)).2)
  else if 253 < (Sp.join [46] (Id.labels (Sp.split 46 (Id.mapG l).1)).1).length then ([], 3)
  else (Sp.join [46] (Id.labels (Sp.split 46 (Id.mapG l).1)).1, 0)) := rfl
  rw [hta]
  split
  · simp
  split
  · simp
  split
  · simp
  split
  · simp
  · simp only; omega
theorem domain_w (s : List UInt8) (hs : s.length ≤ 1000000) : WF Tryz.prog cfg 10 [.str s] H (fun r H' => r = .tup [.agg (dom s).1, .i (dom s).2] ∧ H <+: H') := by
  have hm : ∀ d, cfg.muF 10 d = (false) := fun _ => rfl
  have hz : ∀ d, cfg.fzF 10 d = (false) := fun _ => rfl
  have ht : ∀ d, cfg.tkF 10 d = (false) := fun _ => rfl
  have hr_ : ∀ g, cfg.raw g = (g == 119 || g == 96) := fun _ => rfl
  refine rF_fn rfl rfl Tryz.func10 rfl ?_
  have hd : dom s = if (Id.toASCII (Ho.lossy (Ho.dec s))).2 ≠ 0 then (hz0, (Id.toASCII (Ho.lossy (Ho.dec s))).2)
    else if (Id.toASCII (Ho.lossy (Ho.dec s))).1 = [] then (hz0, 6)
    else if bad (Id.toASCII (Ho.lossy (Ho.dec s))).1 = true ∨ lows (Id.toASCII (Ho.lossy (Ho.dec s))).1 = true then (hz0, 4)
    else if Ho.ends (Id.toASCII (Ho.lossy (Ho.dec s))).1 = false then (hcells 1 (Id.toASCII (Ho.lossy (Ho.dec s))).1 0 (Ho.zeros 8), 0)
    else if (Ho.p4 8589934592 (Id.toASCII (Ho.lossy (Ho.dec s))).1).2 ≠ 0 then (hz0, (Ho.p4 8589934592 (Id.toASCII (Ho.lossy (Ho.dec s))).1).2)
    else (hcells 2 [] (IntKind.u32.wrap (Ho.p4 8589934592 (Id.toASCII (Ho.lossy (Ho.dec s))).1).1) (Ho.zeros 8), 0) := rfl
  rw [hd]
  clear hd
  have h1 := Ho.dec_len _ s (Nat.le_refl _)
  have h1' : (Ho.dec s).length ≤ 1000000 := by omega
  have h2 := Ho.lossy_len _ (Ho.dec s) (Nat.le_refl _)
  have h3 := ascii_len (Ho.lossy (Ho.dec s))
  have z0l := z0l
  have z0o := z0o
  repeat' first | simp (disch := first | omega | assumption | decide) only [go_sem, hm, hz, ht, hr_, dec_be, lossy_e, ZH, store_ptr, get_end_, get_old_, get_set_self_, get_set_ne_, len_set_, len_add_, bind_some_, map_some_, oneD_fold] | refine ifP_in (fun _ => ?_) fun _ => ?_
  refine rF_use (toASCII_w (Ho.lossy (Ho.dec s)) (by omega)) ?_
  rintro _ H1 ⟨rfl, T, rfl⟩
  generalize (Id.toASCII (Ho.lossy (Ho.dec s))).1 = n at *
  generalize (Id.toASCII (Ho.lossy (Ho.dec s))).2 = er at *
  have h4 : n.length ≤ 1000000 := by omega
  by_cases h0 : er = 0
  · subst h0
    rw [if_neg (by simp)]
    by_cases hn : n = []
    · rw [if_pos hn]
      subst hn
      repeat' first | simp (disch := first | omega | assumption | decide) only [go_sem, hm, hz, ht, hr_, ZH, storeH, load11, gH, store_ptr, get_end_, get_old_, get_set_self_, get_set_ne_, len_set_, len_add_, bind_some_, map_some_, oneD_fold] | refine ifP_in (fun _ => ?_) fun _ => ?_
      exact preH
    · rw [if_neg hn]
      cases hb : bad n with
      | true =>
        rw [if_pos (.inl rfl)]
        repeat' first | simp (disch := first | omega | assumption | decide) only [go_sem, hm, hz, ht, hr_, ZH, storeH, load11, gH, has_e, hb, store_ptr, get_end_, get_old_, get_set_self_, get_set_ne_, len_set_, len_add_, bind_some_, map_some_, oneD_fold] | refine ifP_in (fun _ => ?_) fun _ => ?_
        exact preH
      | false =>
        cases hlw : lows n with
        | true =>
          rw [if_pos (.inr rfl)]
          repeat' first | simp (disch := first | omega | assumption | decide) only [go_sem, hm, hz, ht, hr_, ZH, storeH, load11, gH, has_e, hb, low_e, hlw, store_ptr, get_end_, get_old_, get_set_self_, get_set_ne_, len_set_, len_add_, bind_some_, map_some_, oneD_fold] | refine ifP_in (fun _ => ?_) fun _ => ?_
          exact preH
        | false =>
          rw [if_neg (by simp)]
          cases he : Ho.ends n with
          | false =>
            rw [if_pos rfl]
            have hcl := hcells_len (k := 1) (n := n) (v := 0) (l := Ho.zeros 8) rfl
            have hco := hcells_one (k := 1) (n := n) (v := 0) (l := Ho.zeros 8)
            repeat' first | simp (disch := first | omega | assumption | decide) only [go_sem, hm, hz, ht, hr_, ZH, storeH, load11, gH, has_e, hb, low_e, hlw, ends_e, he, build1, store_ptr, get_end_, get_old_, get_set_self_, get_set_ne_, len_set_, len_add_, bind_some_, map_some_, oneD_fold] | refine ifP_in (fun _ => ?_) fun _ => ?_
            exact preH
          | true =>
            rw [if_neg (by simp)]
            have hp4 : ∀ {Q : K (AV → Heap → Prop)} {H : Heap}, @rF Tryz.prog cfg 29 [.str n] H Q = Q.v (.tup [.v (.int .u32 (IntKind.u32.wrap (Ho.p4 8589934592 n).1)), .i (Ho.p4 8589934592 n).2]) H := rF_eq (parse4_w n h4)
            generalize IntKind.u32.wrap (Ho.p4 8589934592 n).1 = v at *
            generalize (Ho.p4 8589934592 n).2 = e4 at *
            by_cases h40 : e4 = 0
            · subst h40
              rw [if_neg (by simp)]
              have hcl : (hcells 2 [] v (Ho.zeros 8)).length = 11 := hcells_len rfl
              have hco : (hcells 2 [] v (Ho.zeros 8)).all AV.one = true := hcells_one
              repeat' first | simp (disch := first | omega | assumption | decide) only [go_sem, hm, hz, ht, hr_, ZH, storeH, load11, gH, has_e, hb, low_e, hlw, ends_e, he, hp4, build2, store_ptr, get_end_, get_old_, get_set_self_, get_set_ne_, len_set_, len_add_, bind_some_, map_some_, oneD_fold] | refine ifP_in (fun _ => ?_) fun _ => ?_
              exact preH
            · rw [if_pos h40]
              repeat' first | simp (disch := first | omega | assumption | decide) only [go_sem, hm, hz, ht, hr_, ZH, storeH, load11, gH, has_e, hb, low_e, hlw, ends_e, he, hp4, store_ptr, get_end_, get_old_, get_set_self_, get_set_ne_, len_set_, len_add_, bind_some_, map_some_, oneD_fold] | refine ifP_in (fun _ => ?_) fun _ => ?_
              exact preH
  · rw [if_pos h0]
    repeat' first | simp (disch := first | omega | assumption | decide) only [go_sem, hm, hz, ht, hr_, ZH, storeH, load11, gH, store_ptr, get_end_, get_old_, get_set_self_, get_set_ne_, len_set_, len_add_, bind_some_, map_some_, oneD_fold] | refine ifP_in (fun _ => ?_) fun _ => ?_
    exact preH
end Hs
end Go.Proofs
/- Walks: a host, the program's side. -/
set_option linter.unusedVariables false
set_option linter.unusedSimpArgs false
namespace Go.Proofs
open Go.Lv
namespace Hs
open Pu Ut Utf In
variable {H : Heap}
def prs (s : List UInt8) (sp : Bool) : List AV × Int :=
  if 4000 < s.length then (hz0, 3) else if s.take 1 = [91] then brk s else if sp = true then dom s
  else if bad s = true then (hz0, 4) else if s = [] then (hz0, 0) else (hcells 4 (Ho.enc s) 0 (Ho.zeros 8), 0)
theorem brk_ok (s : List UInt8) : (brk s).1.length = 11 ∧ (brk s).1.all AV.one = true := by
  unfold brk
  split
  · exact ⟨rfl, rfl⟩
  · split
    · exact ⟨rfl, rfl⟩
    · exact ⟨hcells_len (parse6_len _), hcells_one⟩
theorem dom_ok (s : List UInt8) : (dom s).1.length = 11 ∧ (dom s).1.all AV.one = true := by
  unfold dom
  repeat' split
  all_goals first | exact ⟨rfl, rfl⟩ | exact ⟨hcells_len rfl, hcells_one⟩
theorem l91 : ([91] : List UInt8).length = 1 := rfl
theorem enc_e (b : List UInt8) (hb : b.length ≤ 1000000) {Q : K (AV → Heap → Prop)} : @rF Tryz.prog cfg 12 [.i 1, .sl (b.map byteA)] H Q = Q.v (.str (Ho.enc b)) H := rF_eq (enc_w b hb)
theorem parse_w (s : List UInt8) (sp : Bool) (hs : s.length ≤ 1000000) : WF Tryz.prog cfg 5 [.str s, .b sp] H (fun r H' => r = .tup [.agg (prs s sp).1, .i (prs s sp).2] ∧ H <+: H') := by
  have hm : ∀ d, cfg.muF 5 d = (false) := fun _ => rfl
  have hz : ∀ d, cfg.fzF 5 d = (false) := fun _ => rfl
  have ht : ∀ d, cfg.tkF 5 d = (false) := fun _ => rfl
  have hr_ : ∀ g, cfg.raw g = (g == 119 || g == 96) := fun _ => rfl
  refine rF_fn rfl rfl Tryz.func5 rfl ?_
  have hp : prs s sp = if 4000 < s.length then (hz0, 3) else if s.take 1 = [91] then brk s else if sp = true then dom s
    else if bad s = true then (hz0, 4) else if s = [] then (hz0, 0) else (hcells 4 (Ho.enc s) 0 (Ho.zeros 8), 0) := rfl
  rw [hp]
  clear hp
  have z0l := z0l
  have z0o := z0o
  by_cases h4 : 4000 < s.length
  · rw [if_pos h4]
    repeat' first | simp (disch := first | omega | assumption | decide) only [go_sem, hm, hz, ht, hr_, ZH, storeH1, load11, store_ptr, get_end_, get_old_, get_set_self_, get_set_ne_, len_set_, len_add_, bind_some_, map_some_, oneD_fold] | refine ifP_in (fun _ => ?_) fun _ => ?_
    exact preH1
  rw [if_neg h4]
  by_cases hb : s.take 1 = [91]
  · rw [if_pos hb]
    obtain ⟨b1, b2⟩ := brk_ok s
    repeat' first | simp (disch := first | omega | assumption | decide) only [go_sem, hm, hz, ht, hr_, ZH, hp_e, l91, hb, decide_eq_true hb, store_ptr, get_end_, get_old_, get_set_self_, get_set_ne_, len_set_, len_add_, bind_some_, map_some_, oneD_fold] | refine ifP_in (fun _ => ?_) fun _ => ?_
    refine rF_use (brackets_w s hs) ?_
    rintro _ H1 ⟨rfl, T, rfl⟩
    repeat' first | simp (disch := first | omega | assumption | decide) only [go_sem, hm, hz, ht, hr_, ZH, storeH, load11, gH, store_ptr, get_end_, get_old_, get_set_self_, get_set_ne_, len_set_, len_add_, bind_some_, map_some_, oneD_fold] | refine ifP_in (fun _ => ?_) fun _ => ?_
    exact preH
  rw [if_neg hb]
  cases sp with
  | true =>
    rw [if_pos rfl]
    obtain ⟨b1, b2⟩ := dom_ok s
    repeat' first | simp (disch := first | omega | assumption | decide) only [go_sem, hm, hz, ht, hr_, ZH, hp_e, l91, decide_eq_false hb, store_ptr, get_end_, get_old_, get_set_self_, get_set_ne_, len_set_, len_add_, bind_some_, map_some_, oneD_fold] | refine ifP_in (fun _ => ?_) fun _ => ?_
    refine rF_use (domain_w s hs) ?_
    rintro _ H1 ⟨rfl, T, rfl⟩
    repeat' first | simp (disch := first | omega | assumption | decide) only [go_sem, hm, hz, ht, hr_, ZH, storeH, load11, gH, store_ptr, get_end_, get_old_, get_set_self_, get_set_ne_, len_set_, len_add_, bind_some_, map_some_, oneD_fold] | refine ifP_in (fun _ => ?_) fun _ => ?_
    exact preH
  | false =>
    rw [if_neg (by simp)]
    cases hbd : bad s with
    | true =>
      rw [if_pos rfl]
      repeat' first | simp (disch := first | omega | assumption | decide) only [go_sem, hm, hz, ht, hr_, ZH, hp_e, l91, decide_eq_false hb, has_e, hbd, storeH1, load11, store_ptr, get_end_, get_old_, get_set_self_, get_set_ne_, len_set_, len_add_, bind_some_, map_some_, oneD_fold] | refine ifP_in (fun _ => ?_) fun _ => ?_
      exact preH1
    | false =>
      rw [if_neg (by simp)]
      by_cases h0 : s = []
      · rw [if_pos h0]
        subst h0
        repeat' first | simp (disch := first | omega | assumption | decide) only [go_sem, hm, hz, ht, hr_, ZH, hp_e, l91, decide_eq_false hb, has_e, hbd, storeH1, load11, store_ptr, get_end_, get_old_, get_set_self_, get_set_ne_, len_set_, len_add_, bind_some_, map_some_, oneD_fold] | refine ifP_in (fun _ => ?_) fun _ => ?_
        exact preH1
      · rw [if_neg h0]
        have hcl : (hcells 4 (Ho.enc s) 0 (Ho.zeros 8)).length = 11 := hcells_len rfl
        have hco : (hcells 4 (Ho.enc s) 0 (Ho.zeros 8)).all AV.one = true := hcells_one
        repeat' first | simp (disch := first | omega | assumption | decide) only [go_sem, hm, hz, ht, hr_, ZH, hp_e, l91, decide_eq_false hb, has_e, hbd, enc_e, build1, storeH1, load11, store_ptr, get_end_, get_old_, get_set_self_, get_set_ne_, len_set_, len_add_, bind_some_, map_some_, oneD_fold] | refine ifP_in (fun _ => ?_) fun _ => ?_
        exact preH1
end Hs
end Go.Proofs
/-! The cap of a number does not show in an address. -/
set_option linter.unusedVariables false
set_option linter.unusedSimpArgs false
namespace Ho
open Go
theorem p4n_one (a : Int) : p4n [a] = if 4294967296 ≤ a then (0, 1) else (a + 0, 0) := by
  unfold p4n
  simp [big, sm]
theorem p4n_two (a b : Int) : p4n [a, b] = if 16777216 ≤ b ∨ 255 < a then (0, 1) else (b + (0 + a * 16777216), 0) := by
  unfold p4n
  simp [big, sm]
theorem p4n_three (a b c : Int) : p4n [a, b, c] = if 65536 ≤ c ∨ 255 < a ∨ 255 < b then (0, 1) else (c + (0 + a * 16777216 + b * 65536), 0) := by
  unfold p4n
  simp [big, sm]
theorem p4n_four (a b c d : Int) : p4n [a, b, c, d] = if 256 ≤ d ∨ 255 < a ∨ 255 < b ∨ 255 < c then (0, 1) else (d + (0 + a * 16777216 + b * 65536 + c * 256), 0) := by
  unfold p4n
  simp [big, sm]
def mn (a : Int) : Int := min a 8589934592
theorem mn_le {a k : Int} (hk : k ≤ 8589934592) : k ≤ mn a ↔ k ≤ a := by unfold mn; omega
theorem mn_lt {a k : Int} (hk : k < 8589934592) : k < mn a ↔ k < a := by unfold mn; omega
theorem mn_id {a : Int} (h : a ≤ 8589934592) : mn a = a := by unfold mn; omega
theorem p4n_mn {ns : List Int} (h0 : 0 < ns.length) (h4 : ns.length ≤ 4) : p4n (ns.map mn) = p4n ns := by
  match ns, h0, h4 with
  | [a], _, _ =>
    rw [List.map_cons, List.map_nil, p4n_one, p4n_one]
    simp only [mn_le (k := 4294967296) (by omega), mn_lt (k := 255) (by omega)]
    split
    · rfl
    · rw [mn_id (by omega)]
  | [a, b], _, _ =>
    rw [List.map_cons, List.map_cons, List.map_nil, p4n_two, p4n_two]
    simp only [mn_le (k := 16777216) (by omega), mn_lt (k := 255) (by omega)]
    split
    · rfl
    · rw [mn_id (a := a) (by omega), mn_id (a := b) (by omega)]
  | [a, b, c], _, _ =>
    simp only [List.map_cons, List.map_nil]
    rw [p4n_three, p4n_three]
    simp only [mn_le (k := 65536) (by omega), mn_lt (k := 255) (by omega)]
    split
    · rfl
    · rw [mn_id (a := a) (by omega), mn_id (a := b) (by omega), mn_id (a := c) (by omega)]
  | [a, b, c, d], _, _ =>
    simp only [List.map_cons, List.map_nil]
    rw [p4n_four, p4n_four]
    simp only [mn_le (k := 256) (by omega), mn_lt (k := 255) (by omega)]
    split
    · rfl
    · rw [mn_id (a := a) (by omega), mn_id (a := b) (by omega), mn_id (a := c) (by omega), mn_id (a := d) (by omega)]
theorem pval_mn (s : List UInt8) : pval 8589934592 s = mn (pval 1099511627776 s) := by
  unfold pval
  split
  · rename_i h
    unfold pok at h
    rw [Bool.and_eq_true] at h
    have hb : 1 ≤ pbase s := by rcases pbase_cases s with h | h | h <;> omega
    rw [capn_eq (by omega) hb h.2, capn_eq (by omega) hb h.2]
    unfold mn; omega
  · unfold mn; omega
theorem p4_cap (s : List UInt8) : p4 1099511627776 s = p4 8589934592 s := by
  unfold p4
  split
  · rfl
  split
  · rfl
  split
  · rfl
  · have e : (parts s).map (pval 8589934592) = ((parts s).map (pval 1099511627776)).map mn := by
      rw [List.map_map]
      exact List.map_congr_left fun x _ => pval_mn x
    rw [e, p4n_mn (by simpa using parts_pos s) (by simp; omega)]
end Ho
/- Walks: a host, the document's side. -/
set_option linter.unusedVariables false
set_option linter.unusedSimpArgs false
namespace Go.Proofs
open Go.Lv
namespace Hs
open Pu Ut Utf In
variable {H : Heap}
theorem enc_re (b : List UInt8) (hb : b.length ≤ 1000000) {Q : K (AV → Heap → Prop)} : @rF Tryz.prog cfg 16 [.i 1, .sl (b.map byteA)] H Q = Q.v (.str (Ho.enc b)) H := rF_eq (enc_r b hb)
theorem dec_re (s : List UInt8) (hs : s.length ≤ 1000000) {Q : K (AV → Heap → Prop)} : @rF Tryz.prog cfg 19 [.str s] H Q = Q.v (.sl ((Ho.dec s).map byteA)) H := rF_eq (dec_r s hs)
theorem lossy_re (b : List UInt8) (hb : b.length ≤ 1000000) {Q : K (AV → Heap → Prop)} : @rF Tryz.prog cfg 18 [.sl (b.map byteA)] H Q = Q.v (.sl ((Ho.lossy b).map iA)) H := rF_eq (lossy_r b hb)
theorem take91 {s : List UInt8} (h : 0 < s.length) : (s.take 1 = [91]) ↔ s.getD 0 0 = 91 := by
  cases s with
  | nil => simp at h
  | cons a r => simp
set_option maxHeartbeats 4000000 in
theorem parse_r (s : List UInt8) (sp : Bool) (hs : s.length ≤ 1000000) : WF Tryz.prog cfg 6 [.str s, .b sp] H (fun r H' => r = .tup [.agg (prs s sp).1, .i (prs s sp).2] ∧ H <+: H') := by
  have hm : ∀ d, cfg.muF 6 d = (false) := fun _ => rfl
  have hz : ∀ d, cfg.fzF 6 d = (false) := fun _ => rfl
  have ht : ∀ d, cfg.tkF 6 d = (false) := fun _ => rfl
  have hr_ : ∀ g, cfg.raw g = (g == 119 || g == 96) := fun _ => rfl
  refine rF_fn rfl rfl Tryz.func6 rfl ?_
  have hp : prs s sp = if 4000 < s.length then (hz0, 3) else if s.take 1 = [91] then brk s else if sp = true then dom s
    else if bad s = true then (hz0, 4) else if s = [] then (hz0, 0) else (hcells 4 (Ho.enc s) 0 (Ho.zeros 8), 0) := rfl
  rw [hp]
  clear hp
  have z0l := z0l
  have z0o := z0o
  by_cases h4 : 4000 < s.length
  · rw [if_pos h4]
    repeat' first | simp (disch := first | omega | assumption | decide) only [go_sem, hm, hz, ht, hr_, ZH, storeH1, load11, store_ptr, get_end_, get_old_, get_set_self_, get_set_ne_, len_set_, len_add_, bind_some_, map_some_, oneD_fold] | refine ifP_in (fun _ => ?_) fun _ => ?_
    exact preH1
  rw [if_neg h4]
  by_cases h0 : s = []
  · subst h0
    rw [if_neg (by simp)]
    cases sp with
    | false =>
      rw [if_neg (by simp), show bad [] = false from rfl, if_neg (by simp), if_pos rfl]
      have he : bad [] = false := rfl
      have hl : ([] : List UInt8).length ≤ 1000000 := by simp
      repeat' first | simp (disch := first | omega | assumption | decide) only [go_sem, hm, hz, ht, hr_, ZH, bad_e, among_e, he, storeH1, load11, store_ptr, get_end_, get_old_, get_set_self_, get_set_ne_, len_set_, len_add_, bind_some_, map_some_, oneD_fold] | refine ifP_in (fun _ => ?_) fun _ => ?_
      exact preH1
    | true =>
      have hd : dom [] = if (Id.toASCII (Ho.lossy (Ho.dec []))).2 ≠ 0 then (hz0, (Id.toASCII (Ho.lossy (Ho.dec []))).2)
        else if (Id.toASCII (Ho.lossy (Ho.dec []))).1 = [] then (hz0, 6)
        else if bad (Id.toASCII (Ho.lossy (Ho.dec []))).1 = true ∨ lows (Id.toASCII (Ho.lossy (Ho.dec []))).1 = true then (hz0, 4)
        else if Ho.ends (Id.toASCII (Ho.lossy (Ho.dec []))).1 = false then (hcells 1 (Id.toASCII (Ho.lossy (Ho.dec []))).1 0 (Ho.zeros 8), 0)
        else if (Ho.p4 8589934592 (Id.toASCII (Ho.lossy (Ho.dec []))).1).2 ≠ 0 then (hz0, (Ho.p4 8589934592 (Id.toASCII (Ho.lossy (Ho.dec []))).1).2)
        else (hcells 2 [] (IntKind.u32.wrap (Ho.p4 8589934592 (Id.toASCII (Ho.lossy (Ho.dec []))).1).1) (Ho.zeros 8), 0) := rfl
      rw [if_pos rfl, hd]
      clear hd
      have h1 := Ho.dec_len _ [] (Nat.le_refl _)
      have h1' : (Ho.dec []).length ≤ 1000000 := by omega
      have h2 := Ho.lossy_len _ (Ho.dec []) (Nat.le_refl _)
      have h3 := ascii_len (Ho.lossy (Ho.dec []))
      repeat' first | simp (disch := first | omega | assumption | decide) only [go_sem, hm, hz, ht, hr_, dec_re, lossy_re, ZH, store_ptr, get_end_, get_old_, get_set_self_, get_set_ne_, len_set_, len_add_, bind_some_, map_some_, oneD_fold] | refine ifP_in (fun _ => ?_) fun _ => ?_
      refine rF_use (toASCII_r (Ho.lossy (Ho.dec [])) (by omega)) ?_
      rintro _ H1 ⟨rfl, T, rfl⟩
      generalize (Id.toASCII (Ho.lossy (Ho.dec []))).1 = n at *
      generalize (Id.toASCII (Ho.lossy (Ho.dec []))).2 = er at *
      have h5 : n.length ≤ 1000000 := by omega
      by_cases he0 : er = 0
      · subst he0
        rw [if_neg (by simp)]
        by_cases hn : n = []
        · rw [if_pos hn]
          subst hn
          repeat' first | simp (disch := first | omega | assumption | decide) only [go_sem, hm, hz, ht, hr_, ZH, storeH, load11, gH, store_ptr, get_end_, get_old_, get_set_self_, get_set_ne_, len_set_, len_add_, bind_some_, map_some_, oneD_fold] | refine ifP_in (fun _ => ?_) fun _ => ?_
          exact preH
        · rw [if_neg hn]
          repeat' first | simp (disch := first | omega | assumption | decide) only [go_sem, hm, hz, ht, hr_, ZH, storeH, load11, gH, store_ptr, get_end_, get_old_, get_set_self_, get_set_ne_, len_set_, len_add_, bind_some_, map_some_, oneD_fold] | refine ifP_in (fun _ => ?_) fun _ => ?_
          refine rL_loop (σ := Nat) (fun i e M => M = H ++ [hz0] ++ T ∧ e 4 = .ptr H.length 0 ∧ e 8 = .str n ∧ e 10 = .i i ∧ i ≤ n.length ∧ (n.take i).any (fun c => decide (c.toNat < 32 ∨ c.toNat = 37 ∨ c.toNat = 127)) = false) (fun i => n.length - i) 0 ?_ ?_
          · refine ⟨rfl, ?_, ?_, ?_, by omega, rfl⟩
            all_goals first | (simp (disch := first | assumption | omega) only [go_sem]; done) | (simp (disch := first | assumption | omega) only [go_sem]; rfl)
          · rintro i e M ⟨rfl, g4, g8, g10, i1, hno⟩
            by_cases hi : i < n.length
            · have hix := ix_at hi
              have hat := any_take (p := fun c => decide (c.toNat < 32 ∨ c.toNat = 37 ∨ c.toNat = 127)) hi
              have hay := any_yes (p := fun c => decide (c.toNat < 32 ∨ c.toNat = 37 ∨ c.toNat = 127)) hi
              generalize n[i] = x at *
              by_cases hq : x.toNat < 32 ∨ x.toNat = 37 ∨ x.toNat = 127
              · rw [if_pos (.inr (hay (decide_eq_true hq)))]
                rcases hq with hq | hq | hq
                · repeat' first | simp (disch := first | omega | assumption | decide) only [go_sem, hm, hz, ht, hr_, g4, g8, g10, hix, ZH, storeH, load11, gH, store_ptr, get_end_, get_old_, get_set_self_, get_set_ne_, len_set_, len_add_, bind_some_, map_some_, oneD_fold] | refine ifP_in (fun _ => ?_) fun _ => ?_
                  exact preH
                · repeat' first | simp (disch := first | omega | assumption | decide) only [go_sem, hm, hz, ht, hr_, g4, g8, g10, hix, ZH, storeH, load11, gH, store_ptr, get_end_, get_old_, get_set_self_, get_set_ne_, len_set_, len_add_, bind_some_, map_some_, oneD_fold] | refine ifP_in (fun _ => ?_) fun _ => ?_
                  exact preH
                · repeat' first | simp (disch := first | omega | assumption | decide) only [go_sem, hm, hz, ht, hr_, g4, g8, g10, hix, ZH, storeH, load11, gH, store_ptr, get_end_, get_old_, get_set_self_, get_set_ne_, len_set_, len_add_, bind_some_, map_some_, oneD_fold] | refine ifP_in (fun _ => ?_) fun _ => ?_
                  exact preH
              · repeat' first | simp (disch := first | omega | assumption | decide) only [go_sem, hm, hz, ht, hr_, g4, g8, g10, hix] | refine ifP_in (fun _ => ?_) fun _ => ?_
                refine ⟨i + 1, ⟨rfl, by omega, ?_⟩, by omega⟩
                rw [hat, hno]
                exact decide_eq_false hq
            · have : i = n.length := by omega
              subst this
              rw [List.take_length] at hno
              have hlw : lows n = false := hno
              cases hbd : bad n with
              | true =>
                rw [if_pos (.inl rfl)]
                repeat' first | simp (disch := first | omega | assumption | decide) only [go_sem, hm, hz, ht, hr_, g4, g8, g10, bad_e, among_e, hbd, ZH, storeH, load11, gH, store_ptr, get_end_, get_old_, get_set_self_, get_set_ne_, len_set_, len_add_, bind_some_, map_some_, oneD_fold] | refine ifP_in (fun _ => ?_) fun _ => ?_
                exact preH
              | false =>
                rw [if_neg (by rw [hlw]; simp)]
                cases hen : Ho.ends n with
                | false =>
                  rw [if_pos rfl]
                  have hcl := hcells_len (k := 1) (n := n) (v := 0) (l := Ho.zeros 8) rfl
                  have hco := hcells_one (k := 1) (n := n) (v := 0) (l := Ho.zeros 8)
                  repeat' first | simp (disch := first | omega | assumption | decide) only [go_sem, hm, hz, ht, hr_, g4, g8, g10, bad_e, among_e, hbd, ZH, storeH, load11, gH, ends_re, hen, build1, store_ptr, get_end_, get_old_, get_set_self_, get_set_ne_, len_set_, len_add_, bind_some_, map_some_, oneD_fold] | refine ifP_in (fun _ => ?_) fun _ => ?_
                  exact preH
                | true =>
                  rw [if_neg (by simp)]
                  have hp4 : ∀ {Q : K (AV → Heap → Prop)} {H : Heap}, @rF Tryz.prog cfg 21 [.str n] H Q = Q.v (.tup [.v (.int .u32 (IntKind.u32.wrap (Ho.p4 8589934592 n).1)), .i (Ho.p4 8589934592 n).2]) H := by
                    intro Q H
                    rw [← Ho.p4_cap]
                    exact rF_eq (parse4_r n h5)
                  generalize IntKind.u32.wrap (Ho.p4 8589934592 n).1 = v at *
                  generalize (Ho.p4 8589934592 n).2 = e4 at *
                  by_cases h40 : e4 = 0
                  · subst h40
                    rw [if_neg (by simp)]
                    have hcl : (hcells 2 [] v (Ho.zeros 8)).length = 11 := hcells_len rfl
                    have hco : (hcells 2 [] v (Ho.zeros 8)).all AV.one = true := hcells_one
                    repeat' first | simp (disch := first | omega | assumption | decide) only [go_sem, hm, hz, ht, hr_, g4, g8, g10, bad_e, among_e, hbd, ZH, storeH, load11, gH, ends_re, hen, hp4, build2, store_ptr, get_end_, get_old_, get_set_self_, get_set_ne_, len_set_, len_add_, bind_some_, map_some_, oneD_fold] | refine ifP_in (fun _ => ?_) fun _ => ?_
                    exact preH
                  · rw [if_pos h40]
                    repeat' first | simp (disch := first | omega | assumption | decide) only [go_sem, hm, hz, ht, hr_, g4, g8, g10, bad_e, among_e, hbd, ZH, storeH, load11, gH, ends_re, hen, hp4, store_ptr, get_end_, get_old_, get_set_self_, get_set_ne_, len_set_, len_add_, bind_some_, map_some_, oneD_fold] | refine ifP_in (fun _ => ?_) fun _ => ?_
                    exact preH
      · rw [if_pos he0]
        repeat' first | simp (disch := first | omega | assumption | decide) only [go_sem, hm, hz, ht, hr_, ZH, storeH, load11, gH, store_ptr, get_end_, get_old_, get_set_self_, get_set_ne_, len_set_, len_add_, bind_some_, map_some_, oneD_fold] | refine ifP_in (fun _ => ?_) fun _ => ?_
        exact preH
  have hpos : 0 < s.length := List.length_pos_iff.2 h0
  have hix0 : ix s 0 = s.getD 0 0 := ix_get (i := 0) hpos
  have ht := take91 hpos
  generalize s.getD 0 0 = c0 at *
  by_cases hb : c0 = 91
  · rw [if_pos (ht.2 hb)]
    subst hb
    have hbk : brk s = if s.length < 2 ∨ s.getD (s.length - 1) 0 ≠ 93 then (hz0, 4)
      else if (Ho.p6 ((s.take (s.length - 1)).drop 1)).2 ≠ 0 then (hz0, (Ho.p6 ((s.take (s.length - 1)).drop 1)).2)
      else (hcells 3 [] 0 (Ho.p6 ((s.take (s.length - 1)).drop 1)).1, 0) := rfl
    have hil : ix s ((s.length : Int) - 1) = s.getD (s.length - 1) 0 := by
      rw [show ((s.length : Int) - 1) = ((s.length - 1 : Nat) : Int) by omega]
      exact ix_get (by omega)
    have htn : ((s.length : Int) - 1).toNat = s.length - 1 := by omega
    rw [hbk]
    clear hbk
    generalize s.getD (s.length - 1) 0 = z at *
    by_cases h93 : z = 93
    · subst h93
      by_cases h1 : s.length = 1
      · rw [if_pos (.inl (by omega))]
        repeat' first | simp (disch := first | omega | assumption | decide) only [go_sem, hm, hz, ht, hr_, hix0, hil, htn, ZH, storeH1, load11, store_ptr, get_end_, get_old_, get_set_self_, get_set_ne_, len_set_, len_add_, bind_some_, map_some_, oneD_fold] | refine ifP_in (fun _ => ?_) fun _ => ?_
        exact preH1
      · rw [if_neg (by simp; omega)]
        have h6l := parse6_len ((s.take (s.length - 1)).drop 1)
        repeat' first | simp (disch := first | omega | assumption | decide) only [go_sem, hm, hz, ht, hr_, hix0, hil, htn, ZH, store_ptr, get_end_, get_old_, get_set_self_, get_set_ne_, len_set_, len_add_, bind_some_, map_some_, oneD_fold] | refine ifP_in (fun _ => ?_) fun _ => ?_
        refine rF_use (parse6_r _ (by simp; omega)) ?_
        rintro _ H1 ⟨rfl, T, rfl⟩
        generalize (Ho.p6 ((s.take (s.length - 1)).drop 1)).1 = l at *
        generalize (Ho.p6 ((s.take (s.length - 1)).drop 1)).2 = er at *
        have z8 : (Ho.zeros 8).length = 8 := rfl
        by_cases h0' : er = 0
        · subst h0'
          rw [if_neg (by simp)]
          have hcl := hcells_len (k := 3) (n := []) (v := 0) h6l
          have hco := hcells_one (k := 3) (n := []) (v := 0) (l := l)
          repeat' first | simp (disch := first | omega | assumption | decide) only [go_sem, hm, hz, ht, hr_, ZH, ZZ, ZH2, storeH2, load11, gH2, store8e, load8, build3, store_ptr, get_end_, get_old_, get_set_self_, get_set_ne_, len_set_, len_add_, bind_some_, map_some_, oneD_fold] | refine ifP_in (fun _ => ?_) fun _ => ?_
          exact preH2
        · rw [if_pos h0']
          repeat' first | simp (disch := first | omega | assumption | decide) only [go_sem, hm, hz, ht, hr_, ZH, ZZ, ZH2, storeH2, load11, gH2, store8e, load8, store_ptr, get_end_, get_old_, get_set_self_, get_set_ne_, len_set_, len_add_, bind_some_, map_some_, oneD_fold] | refine ifP_in (fun _ => ?_) fun _ => ?_
          exact preH2
    · have hzn : ¬ ((z.toNat : Int) = 93) := fun h => h93 (UInt8.toNat.inj (by simpa using (by omega : z.toNat = 93)))
      rw [if_pos (.inr h93)]
      repeat' first | simp (disch := first | omega | assumption | decide) only [go_sem, hm, hz, ht, hr_, hix0, hil, htn, ZH, storeH1, load11, store_ptr, get_end_, get_old_, get_set_self_, get_set_ne_, len_set_, len_add_, bind_some_, map_some_, oneD_fold] | refine ifP_in (fun _ => ?_) fun _ => ?_
      exact preH1
  · have hcn : ¬ ((c0.toNat : Int) = 91) := fun h => hb (UInt8.toNat.inj (by simpa using (by omega : c0.toNat = 91)))
    rw [if_neg (fun h => hb (ht.1 h))]
    cases sp with
    | false =>
      rw [if_neg (by simp)]
      cases hbd : bad s with
      | true =>
        rw [if_pos rfl]
        repeat' first | simp (disch := first | omega | assumption | decide) only [go_sem, hm, hz, ht, hr_, ZH, hix0, bad_e, among_e, hbd, storeH1, load11, store_ptr, get_end_, get_old_, get_set_self_, get_set_ne_, len_set_, len_add_, bind_some_, map_some_, oneD_fold] | refine ifP_in (fun _ => ?_) fun _ => ?_
        exact preH1
      | false =>
        rw [if_neg (by simp), if_neg h0]
        have hcl : (hcells 4 (Ho.enc s) 0 (Ho.zeros 8)).length = 11 := hcells_len rfl
        have hco : (hcells 4 (Ho.enc s) 0 (Ho.zeros 8)).all AV.one = true := hcells_one
        repeat' first | simp (disch := first | omega | assumption | decide) only [go_sem, hm, hz, ht, hr_, ZH, hix0, bad_e, among_e, hbd, enc_re, build1, storeH1, load11, store_ptr, get_end_, get_old_, get_set_self_, get_set_ne_, len_set_, len_add_, bind_some_, map_some_, oneD_fold] | refine ifP_in (fun _ => ?_) fun _ => ?_
        exact preH1
    | true =>
      have hd : dom s = if (Id.toASCII (Ho.lossy (Ho.dec s))).2 ≠ 0 then (hz0, (Id.toASCII (Ho.lossy (Ho.dec s))).2)
        else if (Id.toASCII (Ho.lossy (Ho.dec s))).1 = [] then (hz0, 6)
        else if bad (Id.toASCII (Ho.lossy (Ho.dec s))).1 = true ∨ lows (Id.toASCII (Ho.lossy (Ho.dec s))).1 = true then (hz0, 4)
        else if Ho.ends (Id.toASCII (Ho.lossy (Ho.dec s))).1 = false then (hcells 1 (Id.toASCII (Ho.lossy (Ho.dec s))).1 0 (Ho.zeros 8), 0)
        else if (Ho.p4 8589934592 (Id.toASCII (Ho.lossy (Ho.dec s))).1).2 ≠ 0 then (hz0, (Ho.p4 8589934592 (Id.toASCII (Ho.lossy (Ho.dec s))).1).2)
        else (hcells 2 [] (IntKind.u32.wrap (Ho.p4 8589934592 (Id.toASCII (Ho.lossy (Ho.dec s))).1).1) (Ho.zeros 8), 0) := rfl
      rw [if_pos rfl, hd]
      clear hd
      have h1 := Ho.dec_len _ s (Nat.le_refl _)
      have h1' : (Ho.dec s).length ≤ 1000000 := by omega
      have h2 := Ho.lossy_len _ (Ho.dec s) (Nat.le_refl _)
      have h3 := ascii_len (Ho.lossy (Ho.dec s))
      repeat' first | simp (disch := first | omega | assumption | decide) only [go_sem, hm, hz, ht, hr_, hix0, dec_re, lossy_re, ZH, store_ptr, get_end_, get_old_, get_set_self_, get_set_ne_, len_set_, len_add_, bind_some_, map_some_, oneD_fold] | refine ifP_in (fun _ => ?_) fun _ => ?_
      refine rF_use (toASCII_r (Ho.lossy (Ho.dec s)) (by omega)) ?_
      rintro _ H1 ⟨rfl, T, rfl⟩
      generalize (Id.toASCII (Ho.lossy (Ho.dec s))).1 = n at *
      generalize (Id.toASCII (Ho.lossy (Ho.dec s))).2 = er at *
      have h5 : n.length ≤ 1000000 := by omega
      by_cases he0 : er = 0
      · subst he0
        rw [if_neg (by simp)]
        by_cases hn : n = []
        · rw [if_pos hn]
          subst hn
          repeat' first | simp (disch := first | omega | assumption | decide) only [go_sem, hm, hz, ht, hr_, ZH, storeH, load11, gH, store_ptr, get_end_, get_old_, get_set_self_, get_set_ne_, len_set_, len_add_, bind_some_, map_some_, oneD_fold] | refine ifP_in (fun _ => ?_) fun _ => ?_
          exact preH
        · rw [if_neg hn]
          repeat' first | simp (disch := first | omega | assumption | decide) only [go_sem, hm, hz, ht, hr_, ZH, storeH, load11, gH, store_ptr, get_end_, get_old_, get_set_self_, get_set_ne_, len_set_, len_add_, bind_some_, map_some_, oneD_fold] | refine ifP_in (fun _ => ?_) fun _ => ?_
          refine rL_loop (σ := Nat) (fun i e M => M = H ++ [hz0] ++ T ∧ e 4 = .ptr H.length 0 ∧ e 8 = .str n ∧ e 10 = .i i ∧ i ≤ n.length ∧ (n.take i).any (fun c => decide (c.toNat < 32 ∨ c.toNat = 37 ∨ c.toNat = 127)) = false) (fun i => n.length - i) 0 ?_ ?_
          · refine ⟨rfl, ?_, ?_, ?_, by omega, rfl⟩
            all_goals first | (simp (disch := first | assumption | omega) only [go_sem]; done) | (simp (disch := first | assumption | omega) only [go_sem]; rfl)
          · rintro i e M ⟨rfl, g4, g8, g10, i1, hno⟩
            by_cases hi : i < n.length
            · have hix := ix_at hi
              have hat := any_take (p := fun c => decide (c.toNat < 32 ∨ c.toNat = 37 ∨ c.toNat = 127)) hi
              have hay := any_yes (p := fun c => decide (c.toNat < 32 ∨ c.toNat = 37 ∨ c.toNat = 127)) hi
              generalize n[i] = x at *
              by_cases hq : x.toNat < 32 ∨ x.toNat = 37 ∨ x.toNat = 127
              · rw [if_pos (.inr (hay (decide_eq_true hq)))]
                rcases hq with hq | hq | hq
                · repeat' first | simp (disch := first | omega | assumption | decide) only [go_sem, hm, hz, ht, hr_, g4, g8, g10, hix, ZH, storeH, load11, gH, store_ptr, get_end_, get_old_, get_set_self_, get_set_ne_, len_set_, len_add_, bind_some_, map_some_, oneD_fold] | refine ifP_in (fun _ => ?_) fun _ => ?_
                  exact preH
                · repeat' first | simp (disch := first | omega | assumption | decide) only [go_sem, hm, hz, ht, hr_, g4, g8, g10, hix, ZH, storeH, load11, gH, store_ptr, get_end_, get_old_, get_set_self_, get_set_ne_, len_set_, len_add_, bind_some_, map_some_, oneD_fold] | refine ifP_in (fun _ => ?_) fun _ => ?_
                  exact preH
                · repeat' first | simp (disch := first | omega | assumption | decide) only [go_sem, hm, hz, ht, hr_, g4, g8, g10, hix, ZH, storeH, load11, gH, store_ptr, get_end_, get_old_, get_set_self_, get_set_ne_, len_set_, len_add_, bind_some_, map_some_, oneD_fold] | refine ifP_in (fun _ => ?_) fun _ => ?_
                  exact preH
              · repeat' first | simp (disch := first | omega | assumption | decide) only [go_sem, hm, hz, ht, hr_, g4, g8, g10, hix] | refine ifP_in (fun _ => ?_) fun _ => ?_
                refine ⟨i + 1, ⟨rfl, by omega, ?_⟩, by omega⟩
                rw [hat, hno]
                exact decide_eq_false hq
            · have : i = n.length := by omega
              subst this
              rw [List.take_length] at hno
              have hlw : lows n = false := hno
              cases hbd : bad n with
              | true =>
                rw [if_pos (.inl rfl)]
                repeat' first | simp (disch := first | omega | assumption | decide) only [go_sem, hm, hz, ht, hr_, g4, g8, g10, bad_e, among_e, hbd, ZH, storeH, load11, gH, store_ptr, get_end_, get_old_, get_set_self_, get_set_ne_, len_set_, len_add_, bind_some_, map_some_, oneD_fold] | refine ifP_in (fun _ => ?_) fun _ => ?_
                exact preH
              | false =>
                rw [if_neg (by rw [hlw]; simp)]
                cases hen : Ho.ends n with
                | false =>
                  rw [if_pos rfl]
                  have hcl := hcells_len (k := 1) (n := n) (v := 0) (l := Ho.zeros 8) rfl
                  have hco := hcells_one (k := 1) (n := n) (v := 0) (l := Ho.zeros 8)
                  repeat' first | simp (disch := first | omega | assumption | decide) only [go_sem, hm, hz, ht, hr_, g4, g8, g10, bad_e, among_e, hbd, ZH, storeH, load11, gH, ends_re, hen, build1, store_ptr, get_end_, get_old_, get_set_self_, get_set_ne_, len_set_, len_add_, bind_some_, map_some_, oneD_fold] | refine ifP_in (fun _ => ?_) fun _ => ?_
                  exact preH
                | true =>
                  rw [if_neg (by simp)]
                  have hp4 : ∀ {Q : K (AV → Heap → Prop)} {H : Heap}, @rF Tryz.prog cfg 21 [.str n] H Q = Q.v (.tup [.v (.int .u32 (IntKind.u32.wrap (Ho.p4 8589934592 n).1)), .i (Ho.p4 8589934592 n).2]) H := by
                    intro Q H
                    rw [← Ho.p4_cap]
                    exact rF_eq (parse4_r n h5)
                  generalize IntKind.u32.wrap (Ho.p4 8589934592 n).1 = v at *
                  generalize (Ho.p4 8589934592 n).2 = e4 at *
                  by_cases h40 : e4 = 0
                  · subst h40
                    rw [if_neg (by simp)]
                    have hcl : (hcells 2 [] v (Ho.zeros 8)).length = 11 := hcells_len rfl
                    have hco : (hcells 2 [] v (Ho.zeros 8)).all AV.one = true := hcells_one
                    repeat' first | simp (disch := first | omega | assumption | decide) only [go_sem, hm, hz, ht, hr_, g4, g8, g10, bad_e, among_e, hbd, ZH, storeH, load11, gH, ends_re, hen, hp4, build2, store_ptr, get_end_, get_old_, get_set_self_, get_set_ne_, len_set_, len_add_, bind_some_, map_some_, oneD_fold] | refine ifP_in (fun _ => ?_) fun _ => ?_
                    exact preH
                  · rw [if_pos h40]
                    repeat' first | simp (disch := first | omega | assumption | decide) only [go_sem, hm, hz, ht, hr_, g4, g8, g10, bad_e, among_e, hbd, ZH, storeH, load11, gH, ends_re, hen, hp4, store_ptr, get_end_, get_old_, get_set_self_, get_set_ne_, len_set_, len_add_, bind_some_, map_some_, oneD_fold] | refine ifP_in (fun _ => ?_) fun _ => ?_
                    exact preH
      · rw [if_pos he0]
        repeat' first | simp (disch := first | omega | assumption | decide) only [go_sem, hm, hz, ht, hr_, ZH, storeH, load11, gH, store_ptr, get_end_, get_old_, get_set_self_, get_set_ne_, len_set_, len_add_, bind_some_, map_some_, oneD_fold] | refine ifP_in (fun _ => ?_) fun _ => ?_
        exact preH
end Hs
end Go.Proofs
/- Walks: two hosts that are the same. -/
set_option linter.unusedVariables false
set_option linter.unusedSimpArgs false
namespace Go.Proofs
open Go.Lv
namespace Hs
open Pu Ut Utf In
variable {H : Heap}
theorem prs_form (s : List UInt8) (sp : Bool) : ∃ k n v l, l.length = 8 ∧ (prs s sp).1 = hcells k n v l := by
  have hz : ∃ k n v l, l.length = 8 ∧ hz0 = hcells k n v l := ⟨0, [], 0, Ho.zeros 8, rfl, rfl⟩
  unfold prs
  split
  · exact hz
  split
  · unfold brk
    split
    · exact hz
    split
    · exact hz
    · exact ⟨_, _, _, _, parse6_len _, rfl⟩
  split
  · unfold dom
    repeat' split
    all_goals first | exact hz | exact ⟨_, _, _, _, rfl, rfl⟩
  split
  · exact hz
  split
  · exact hz
  · exact ⟨_, _, _, _, rfl, rfl⟩
theorem eqArr_same (l : List Int) : eqArr .u16 (l.map uA) (l.map uA) = some true := by
  induction l with
  | nil => rfl
  | cons a l ih =>
    rw [List.map_cons, eqArr, if_pos ⟨rfl, rfl⟩, ih]
    simp
theorem bin_same {P : Program} {t e : TypeId} {l : List Int} [h1 : UndIs P t (.array 8 e)] [h2 : UndIs P e (.int .u16)] [h3 : SizeIs P e 1] (hg : P.eqGuardType P.depth t = false) (hl : l.length = 8) :
    bin P .eql t (.agg (l.map uA)) (.agg (l.map uA)) = some (.b true) := by
  show binAgg P .eql t _ _ = _
  unfold binAgg
  simp only [h1.h, h2.h]
  rw [if_pos ⟨h3.h, by simp [hl], by simp [hl], hg⟩, eqArr_same]
  rfl
theorem guard25 : Tryz.prog.eqGuardType Tryz.prog.depth 25 = false := by kernel_rfl
theorem same_r (k : Int) (n : List UInt8) (v : Int) (l : List Int) (hl : l.length = 8) : WF Tryz.prog cfg 7 [.agg (hcells k n v l), .agg (hcells k n v l)] H (fun r H' => r = .b true ∧ H <+: H') := by
  have hm : ∀ d, cfg.muF 7 d = (false) := fun _ => rfl
  have hz : ∀ d, cfg.fzF 7 d = (false) := fun _ => rfl
  have ht : ∀ d, cfg.tkF 7 d = (false) := fun _ => rfl
  have hr_ : ∀ g, cfg.raw g = (g == 119 || g == 96) := fun _ => rfl
  refine rF_fn rfl rfl Tryz.func7 rfl ?_
  have hco := hcells_one (k := k) (n := n) (v := v) (l := l)
  have hg := guard25
  have hml : (l.map uA).length = 8 := by simp [hl]
  have htk : (l.map uA).take 8 = l.map uA := List.take_of_length_le (by omega)
  have hcd : hcells k n v l = .i k :: .str n :: .v (.int .u32 v) :: l.map uA := rfl
  generalize hcc : hcells k n v l = cs at *
  repeat' first | simp (disch := first | omega | assumption | decide) only [go_sem, hm, hz, ht, hr_, hco, g2a, g2b, store_ptr, get_end_, get_old_, get_set_self_, get_set_ne_, len_set_, len_add_, bind_some_, map_some_, oneD_fold] | refine ifP_in (fun _ => ?_) fun _ => ?_
  subst hcd
  have hpl : ∀ {x : Option AV}, plainD (.i k :: .str n :: .v (.int .u32 v) :: l.map uA) x = x := fun {x} => by
    unfold plainD
    rw [if_pos (plainRow_one hco)]
  clear hco
  repeat' first | simp (disch := first | omega | assumption | decide) only [go_sem, hm, hz, ht, hr_, hpl, g2a, g2b, bin_same, htk, hml, Nat.le_refl, if_true, store_ptr, get_end_, get_old_, get_set_self_, get_set_ne_, len_set_, len_add_, bind_some_, map_some_, oneD_fold] | refine ifP_in (fun _ => ?_) fun _ => ?_
  rw [List.append_assoc]
  exact List.prefix_append _ _
theorem first_e {Q : K (AV → Heap → Prop)} : @rF Tryz.prog cfg 4 [] H Q = Q.v (.b true) H := rF_eq sprlaw8_first_w
theorem texts_w (s : List UInt8) (sp : Bool) (hs : s.length ≤ 140737488355328) : WF Tryz.prog cfg 3 [.str s, .b sp] H (fun r H' => r = .b true) := by
  have hm : ∀ d, cfg.muF 3 d = (false) := fun _ => rfl
  have hz : ∀ d, cfg.fzF 3 d = (false) := fun _ => rfl
  have ht : ∀ d, cfg.tkF 3 d = (false) := fun _ => rfl
  have hr_ : ∀ g, cfg.raw g = (g == 119 || g == 96) := fun _ => rfl
  refine rF_fn rfl rfl Tryz.func3 rfl ?_
  by_cases h1 : 5000 < s.length
  · repeat' first | simp (disch := first | omega | assumption | decide) only [go_sem, hm, hz, ht, hr_, first_e] | refine ifP_in (fun _ => ?_) fun _ => ?_
  · have z0l := z0l
    have z0o := z0o
    obtain ⟨k, n, v, l, hl, hc⟩ := prs_form s sp
    have hcl := hcells_len (k := k) (n := n) (v := v) hl
    have hco := hcells_one (k := k) (n := n) (v := v) (l := l)
    repeat' first | simp (disch := first | omega | assumption | decide) only [go_sem, hm, hz, ht, hr_, first_e, store_ptr, get_end_, get_old_, get_set_self_, get_set_ne_, len_set_, len_add_, bind_some_, map_some_, oneD_fold] | refine ifP_in (fun _ => ?_) fun _ => ?_
    refine rF_use (parse_w s sp (by omega)) ?_
    rintro _ H1 ⟨rfl, T1, rfl⟩
    rw [hc]
    generalize hcc : hcells k n v l = cs at *
    repeat' first | simp (disch := first | omega | assumption | decide) only [go_sem, hm, hz, ht, hr_, first_e, ZH, storeH1, load11, store_ptr, get_end_, get_old_, get_set_self_, get_set_ne_, len_set_, len_add_, bind_some_, map_some_, oneD_fold] | refine ifP_in (fun _ => ?_) fun _ => ?_
    refine rF_use (parse_r s sp (by omega)) ?_
    rintro _ H2 ⟨rfl, T2, rfl⟩
    rw [hc]
    repeat' first | simp (disch := first | omega | assumption | decide) only [go_sem, hm, hz, ht, hr_, first_e, ZH, storeH1, load11, store_ptr, get_end_, get_old_, get_set_self_, get_set_ne_, len_set_, len_add_, bind_some_, map_some_, oneD_fold] | refine ifP_in (fun _ => ?_) fun _ => ?_
    repeat' first | simp (disch := first | omega | assumption | decide) only [go_sem, hm, hz, ht, hr_, first_e, gH2, load11, store_ptr, get_end_, get_old_, get_set_self_, get_set_ne_, len_set_, len_add_, bind_some_, map_some_, oneD_fold] | refine ifP_in (fun _ => ?_) fun _ => ?_
    rw [← hcc]
    refine rF_use (same_r k n v l hl) ?_
    rintro _ H3 ⟨rfl, T3, rfl⟩
    repeat' first | simp (disch := first | omega | assumption | decide) only [go_sem, hm, hz, ht, hr_, first_e, store_ptr, get_end_, get_old_, get_set_self_, get_set_ne_, len_set_, len_add_, bind_some_, map_some_, oneD_fold] | refine ifP_in (fun _ => ?_) fun _ => ?_
end Hs
end Go.Proofs
