/- The plain law of hosts: what is read is printed, and read as the same. -/
import Derived.Test.YtiboedaicjkfnaaGreatDoorHoAllcx0
import Derived.Test.YtiboedaicjkfnaaGreatDoorIdStay
set_option linter.unusedVariables false
set_option linter.unusedSimpArgs false
namespace Go.Proofs
open Go.Lv
namespace Hs
theorem dec_id : ∀ {s : List UInt8}, (∀ c ∈ s, c ≠ 37) → Ho.dec s = s := by
  intro s
  induction s with
  | nil => intro _; exact Ho.dec_nil
  | cons c r ih =>
    intro h
    rw [Ho.dec, if_neg (fun hc => h c (by simp) hc.1), ih fun x hx => h x (by simp [hx])]
theorem lossy_ints : ∀ {s : List UInt8}, (∀ c ∈ s, c.toNat < 128) → Ho.lossy s = Puny.ints s := by
  intro s
  induction s with
  | nil => intro _; rw [Ho.lossy_nil]; rfl
  | cons c r ih =>
    intro h
    have hc := h c (by simp)
    have hn : Ho.nx (c :: r) = ((c.toNat : Int), 1) := by
      unfold Ho.nx
      simp only [List.getD_cons_zero]
      have hl : Ho.lead (c.toNat : Int) = (0, 0, 0) := by unfold Ho.lead; rw [if_pos (by omega)]
      rw [hl]
      rfl
    rw [Ho.lossy_cons (by simp), hn]
    simp only [List.drop_succ_cons, List.drop_zero]
    rw [ih fun x hx => h x (by simp [hx])]
    rfl
theorem asc_ints (s : List UInt8) : Utf.asc (Puny.ints s) = s := by
  induction s with
  | nil => rfl
  | cons c r ih =>
    show UInt8.ofNat ((c.toNat : Int)).toNat :: Utf.asc (Puny.ints r) = _
    rw [ih]; simp
theorem plain_ints {s : List UInt8} (h : ∀ c ∈ s, c.toNat < 128) : Id.plain (Puny.ints s) = true := by
  refine List.all_eq_true.2 fun c hc => ?_
  obtain ⟨x, hx, rfl⟩ := List.mem_map.1 hc
  have := h x hx
  simp [Id.high]; omega
theorem ascii_same {s : List UInt8} (h : ∀ c ∈ s, Id.stays c) (hx : ∀ x ∈ Sp.split 46 s, x.take 4 ≠ Id.XNb) (hl : s.length ≤ 253) : Id.toASCII (Puny.ints s) = (s, 0) := by
  have hm : ∀ x ∈ Sp.split 46 s, ∀ c ∈ x, c ∈ s := fun x hx c hc => by
    rw [← Sp.join_split (c := (46 : UInt8)) s]
    exact Sp.mem_join_of hx hc
  have hlab : ∀ x ∈ Sp.split 46 s, Id.label (Puny.ints x) = (x, 0) := by
    intro x hxx
    have hp : Id.plain (Puny.ints x) = true := plain_ints fun c hc => (h c (hm x hxx c hc)).1
    have hk : Id.marked (Puny.ints x) = false := by
      refine decide_eq_false fun he => hx x hxx ?_
      have := (Id.marked_asc hp).2 he
      rwa [asc_ints] at this
    unfold Id.label
    rw [hp, hk, asc_ints]; rfl
  have hj : Puny.ints s = Sp.join [46] ((Sp.split 46 s).map Puny.ints) := by
    rw [← Id.ints_join, Sp.join_split]
  have hmm : ((Sp.split 46 s).map Puny.ints).map (fun y => (Id.label y).1) = Sp.split 46 s := by
    rw [List.map_map]
    refine (List.map_congr_left (g := id) fun x hxx => ?_).trans (by simp)
    show (Id.label (Puny.ints x)).1 = x
    rw [hlab x hxx]
  have := Id.ascii_of (ys := (Sp.split 46 s).map Puny.ints) (by simp [Sp.split_ne]) ?_ ?_ (by rw [← hj]; simp [Puny.ints]; omega) (by rw [hmm, Sp.join_split]; exact hl)
  · rw [hj, this, hmm, Sp.join_split]
  · intro y hy c hc
    obtain ⟨x, hxx, rfl⟩ := List.mem_map.1 hy
    obtain ⟨b, hb, rfl⟩ := List.mem_map.1 hc
    refine ⟨Id.stays_kind (h b (hm x hxx b hb)), fun e => ?_⟩
    have : b = 46 := UInt8.toNat.inj (by simpa using (by omega : b.toNat = 46))
    exact Sp.split_parts (c := (46 : UInt8)) s x hxx (this ▸ hb)
  · intro y hy
    obtain ⟨x, hxx, rfl⟩ := List.mem_map.1 hy
    rw [hlab x hxx]
/-- Letters, digits and points. -/
def calm (c : UInt8) : Prop := c = 46 ∨ (48 ≤ c.toNat ∧ c.toNat ≤ 57) ∨ (97 ≤ c.toNat ∧ c.toNat ≤ 102)
theorem calm_ok {c : UInt8} (h : calm c) : Id.stays c ∧ c ≠ 37 ∧ c ∉ BAD ∧ ¬ (c.toNat < 32 ∨ c.toNat = 37 ∨ c.toNat = 127) ∧ c ≠ 120 := by
  have key : ∀ k : Fin 256, (k.val = 46 ∨ (48 ≤ k.val ∧ k.val ≤ 57) ∨ (97 ≤ k.val ∧ k.val ≤ 102)) → UInt8.ofNat k.val ∉ BAD ∧ UInt8.ofNat k.val ≠ 37 ∧ UInt8.ofNat k.val ≠ 120 := by decide +kernel
  have hk := key ⟨c.toNat, c.toNat_lt⟩ (by rcases h with rfl | h | h; exact .inl rfl; exact .inr (.inl h); exact .inr (.inr h))
  simp only [UInt8.ofNat_toNat] at hk
  have hn : 46 ≤ c.toNat ∧ c.toNat ≤ 102 ∧ (c.toNat ≤ 57 ∨ 97 ≤ c.toNat) := by rcases h with rfl | h | h; exact ⟨by decide, by decide, by decide⟩; omega; omega
  exact ⟨⟨by omega, by omega⟩, hk.2.1, hk.1, by omega, hk.2.2⟩
theorem bad_no {s : List UInt8} (h : ∀ c ∈ s, c ∉ BAD) : bad s = false := by
  cases hb : bad s with
  | false => rfl
  | true => obtain ⟨c, hc, hd⟩ := List.any_eq_true.1 hb; exact absurd (of_decide_eq_true hd) (h c hc)
theorem bad_mem {s : List UInt8} (h : bad s = false) : ∀ c ∈ s, c ∉ BAD := fun c hc hm => by
  have : bad s = true := List.any_eq_true.2 ⟨c, hc, decide_eq_true hm⟩
  rw [h] at this; cases this
theorem lows_no {s : List UInt8} (h : ∀ c ∈ s, ¬ (c.toNat < 32 ∨ c.toNat = 37 ∨ c.toNat = 127)) : lows s = false := by
  cases hb : lows s with
  | false => rfl
  | true => obtain ⟨c, hc, hd⟩ := List.any_eq_true.1 hb; exact absurd (of_decide_eq_true hd) (h c hc)
theorem lows_mem {s : List UInt8} (h : lows s = false) : ∀ c ∈ s, ¬ (c.toNat < 32 ∨ c.toNat = 37 ∨ c.toNat = 127) := fun c hc hm => by
  have : lows s = true := List.any_eq_true.2 ⟨c, hc, decide_eq_true hm⟩
  rw [h] at this; cases this
/-- A name whose signs stay as they are. -/
theorem dom_same {s : List UInt8} (h7 : ∀ c ∈ s, c ≠ 37) (ha : ∀ c ∈ s, c.toNat < 128) (ht : Id.toASCII (Puny.ints s) = (s, 0)) (h0 : s ≠ []) (hb : bad s = false) (hl : lows s = false) :
    dom s = if Ho.ends s = false then (hcells 1 s 0 (Ho.zeros 8), 0) else if (Ho.p4 8589934592 s).2 ≠ 0 then (hz0, (Ho.p4 8589934592 s).2) else (hcells 2 [] (IntKind.u32.wrap (Ho.p4 8589934592 s).1) (Ho.zeros 8), 0) := by
  unfold dom
  rw [dec_id h7, lossy_ints ha, ht]
  simp only
  rw [if_neg (by simp), if_neg h0, if_neg (by rw [hb, hl]; simp)]
theorem dom_calm {s : List UInt8} (h : ∀ c ∈ s, calm c) (h0 : s ≠ []) (hlen : s.length ≤ 253) :
    dom s = if Ho.ends s = false then (hcells 1 s 0 (Ho.zeros 8), 0) else if (Ho.p4 8589934592 s).2 ≠ 0 then (hz0, (Ho.p4 8589934592 s).2) else (hcells 2 [] (IntKind.u32.wrap (Ho.p4 8589934592 s).1) (Ho.zeros 8), 0) := by
  refine dom_same (fun c hc => (calm_ok (h c hc)).2.1) (fun c hc => (calm_ok (h c hc)).1.1) (ascii_same (fun c hc => (calm_ok (h c hc)).1) ?_ hlen) h0 (bad_no fun c hc => (calm_ok (h c hc)).2.2.1) (lows_no fun c hc => (calm_ok (h c hc)).2.2.2.1)
  intro x hx he
  have hm : (120 : UInt8) ∈ x := List.mem_of_mem_take (by rw [he]; simp [Id.XNb])
  have hs : (120 : UInt8) ∈ s := by
    rw [← Sp.join_split (c := (46 : UInt8)) s]
    exact Sp.mem_join_of hx hm
  exact (calm_ok (h _ hs)).2.2.2.2 rfl
theorem pr4_calm {v : Int} (h0 : 0 ≤ v) (h1 : v < 4294967296) : ∀ c ∈ Ho.pr4 v, calm c := fun c hc => by
  rcases Ho.pr4_chars h0 h1 c hc with h | h
  · exact .inl h
  · exact .inr (.inl h)
theorem pr4_ne {v : Int} (h0 : 0 ≤ v) (h1 : v < 4294967296) : Ho.pr4 v ≠ [] := by
  intro e
  have := Ho.pr4_split h0 h1
  rw [e] at this
  simp [Ho.q4, Sp.split] at this
theorem wrap32 {v : Int} (h0 : 0 ≤ v) (h1 : v < 4294967296) : IntKind.u32.wrap v = v := by
  unfold IntKind.wrap
  simp [IntKind.bits, IntKind.signed]
  omega
theorem dom_pr4 {v : Int} (h0 : 0 ≤ v) (h1 : v < 4294967296) : dom (Ho.pr4 v) = (hcells 2 [] v (Ho.zeros 8), 0) := by
  rw [dom_calm (pr4_calm h0 h1) (pr4_ne h0 h1) (by have := Ho.pr4_len v; omega), Ho.pr4_ends h0 h1, if_neg (by simp), Ho.p4_pr4 (by omega) h0 h1, if_neg (by simp), wrap32 h0 h1]
theorem take1_no {s : List UInt8} (h : (91 : UInt8) ∉ s) : s.take 1 ≠ [91] := fun e => h (List.mem_of_mem_take (i := 1) (by rw [e]; simp))
theorem prs_pr4 {v : Int} (h0 : 0 ≤ v) (h1 : v < 4294967296) : prs (Ho.pr4 v) true = (hcells 2 [] v (Ho.zeros 8), 0) := by
  have hl := Ho.pr4_len v
  unfold prs
  rw [if_neg (by omega), if_neg (take1_no fun hm => (calm_ok (pr4_calm h0 h1 _ hm)).2.2.1 (by simp [BAD])), if_pos rfl, dom_pr4 h0 h1]
/-- What a host is as a text. -/
def pr (k : Int) (n : List UInt8) (v : Int) (l : List Int) : List UInt8 := if k = 1 ∨ k = 4 then n else if k = 2 then Ho.pr4 v else if k = 3 then [91] ++ Ho.pr6 l ++ [93] else []
theorem prs_pr6 {l : List Int} (h8 : l.length = 8) (h : Ho.u16s l) (sp : Bool) : prs ([91] ++ Ho.pr6 l ++ [93]) sp = (hcells 3 [] 0 l, 0) := by
  have hl := Ho.pr6_len l
  unfold prs
  rw [if_neg (by simp; omega), if_pos (by simp)]
  unfold brk
  have e1 : ([91] ++ Ho.pr6 l ++ [93]).length = (Ho.pr6 l).length + 2 := by simp
  have e2 : (([91] ++ Ho.pr6 l ++ [93]).take ((Ho.pr6 l).length + 2 - 1)).drop 1 = Ho.pr6 l := by simp
  rw [e1, if_neg, e2, Ho.p6_pr6 h8 h, if_neg (by simp)]
  simp only [List.getD_eq_getElem?_getD]
  rw [List.getElem?_append_right (by simp)]
  simp
end Hs
end Go.Proofs
/- Walks: eight pieces as a text, the program's side. -/
set_option linter.unusedVariables false
set_option linter.unusedSimpArgs false
namespace Go.Proofs
open Go.Lv
namespace Hs
open Pu Ut Utf In
variable {H : Heap}
theorem zeros_w (l : List Int) (hl : l.length = 8) (hu : Ho.u16s l) : WF Tryz.prog cfg 24 [.agg (l.map uA)] H (fun r H' => r = .tup [.i (Ho.zr l).1, .i (Ho.zr l).2] ∧ H <+: H') := by
  have hm : ∀ d, cfg.muF 24 d = (false) := fun _ => rfl
  have hz : ∀ d, cfg.fzF 24 d = (false) := fun _ => rfl
  have ht : ∀ d, cfg.tkF 24 d = (false) := fun _ => rfl
  have hr_ : ∀ g, cfg.raw g = (g == 152 || g == 118) := fun _ => rfl
  refine rF_fn rfl rfl Tryz.func24 rfl ?_
  have ho := one_u (vs := l)
  have hpl : ∀ {x : Option AV}, plainD (l.map uA) x = x := fun {x} => by
    unfold plainD
    rw [if_pos (plainRow_one ho)]
  have hml : (l.map uA).length = 8 := by simp [hl]
  have htk : (l.map uA).take 8 = l.map uA := List.take_of_length_le (by omega)
  repeat' first | simp (disch := first | omega | assumption | decide) only [go_sem, hm, hz, ht, hr_, ho, hpl, hml, htk, Nat.le_refl, if_true, store_ptr, get_end_, get_old_, get_set_self_, get_set_ne_, len_set_, len_add_, bind_some_, map_some_, oneD_fold] | refine ifP_in (fun _ => ?_) fun _ => ?_
  refine rL_loop (σ := Nat) (fun i e K => K = H ++ [l.map uA] ∧ e 9 = .agg (l.map uA) ∧ e 10 = .i i ∧ e 4 = .i (Ho.zf (l.take i)).1 ∧ e 5 = .i (Ho.zf (l.take i)).2.1 ∧ e 6 = .i (Ho.zf (l.take i)).2.2.1 ∧ i ≤ 8) (fun i => 8 - i) 0 ?_ ?_
  · refine ⟨rfl, ?_, ?_, ?_, ?_, ?_, by omega⟩
    all_goals first | (simp (disch := first | assumption | omega) only [go_sem]; done) | (simp (disch := first | assumption | omega) only [go_sem]; rfl)
  · rintro i e K ⟨rfl, g9, g10, g4, g5, g6, i1⟩
    by_cases hi : i < 8
    · have hil : i < l.length := by omega
      have hst := Ho.zf_take hil
      obtain ⟨k1, k2, k3, k4, k5, k6, k7, k8⟩ := Ho.zf_inv l i (by omega)
      have hlen : (l.take i).length = i := by simp; omega
      rw [hlen] at k1 k3 k7
      have hx := hu _ (List.getElem_mem hil)
      have hpi : ∀ {s : Option Nat}, partD (some false) s (l.map uA) i = some (uA l[i]) := fun {s} => by rw [partD_map, List.getElem?_eq_getElem hil]; rfl
      generalize l[i] = x at *
      generalize Ho.zf (l.take i) = s at *
      obtain ⟨a, m, n, q⟩ := s
      simp only at g4 g5 g6 k1 k2 k3 k5 k6 k7
      subst k1
      have hn1 : (n : Int) + 1 < 100 := by omega
      by_cases hx0 : x = 0
      · have hst2 : Ho.zstep x (a, m, n, (i : Int)) = if m < n + 1 then ((i : Int) + 1 - (n + 1), n + 1, n + 1, (i : Int) + 1) else (a, m, n + 1, (i : Int) + 1) := by unfold Ho.zstep; simp only [hx0, if_true]
        rw [hst2] at hst
        subst hx0
        repeat' first | simp (disch := first | omega | assumption | decide) only [go_sem, hm, hz, ht, hr_, g9, g10, g4, g5, g6, hpi, store_ptr, get_end_, get_old_, get_set_self_, get_set_ne_, len_set_, len_add_, bind_some_, map_some_, oneD_fold] | refine ifP_in (fun _ => ?_) fun _ => ?_
        · rw [if_pos (by omega)] at hst
          exact ⟨i + 1, ⟨rfl, by rw [hst], by rw [hst], by rw [hst], by omega⟩, by omega⟩
        · rw [if_neg (by omega)] at hst
          exact ⟨i + 1, ⟨rfl, by rw [hst], by rw [hst], by rw [hst], by omega⟩, by omega⟩
      · have hst2 : Ho.zstep x (a, m, n, (i : Int)) = (a, m, 0, (i : Int) + 1) := by unfold Ho.zstep; simp only [hx0, if_false]; rw [if_neg (by omega)]
        rw [hst2] at hst
        repeat' first | simp (disch := first | omega | assumption | decide) only [go_sem, hm, hz, ht, hr_, g9, g10, g4, g5, g6, hpi, store_ptr, get_end_, get_old_, get_set_self_, get_set_ne_, len_set_, len_add_, bind_some_, map_some_, oneD_fold] | refine ifP_in (fun _ => ?_) fun _ => ?_
        exact ⟨i + 1, ⟨rfl, by rw [hst], by rw [hst], by rw [hst], by omega⟩, by omega⟩
    · obtain rfl : i = 8 := by omega
      have h8 : l.take 8 = l := List.take_of_length_le (by omega)
      rw [h8] at g4 g5 g6
      repeat' first | simp (disch := first | omega | assumption | decide) only [go_sem, hm, hz, ht, hr_, g9, g10, g4, g5, g6, store_ptr, get_end_, get_old_, get_set_self_, get_set_ne_, len_set_, len_add_, bind_some_, map_some_, oneD_fold] | refine ifP_in (fun _ => ?_) fun _ => ?_
      exact ⟨by rw [Ho.zr_zf], List.prefix_append _ _⟩
theorem text_w (l : List Int) (hu : Ho.u16s l) (j off len : Nat) (hj : H[j]? = some (l.map uA)) (ho : off + len ≤ l.length) (hl8 : l.length ≤ 8) : WF Tryz.prog cfg 25 [.mr j off len 1 false] H (fun r H' => r = .str (Ho.tx6 ((l.drop off).take len)) ∧ H <+: H') := by
  have hm : ∀ d, cfg.muF 25 d = (false) := fun _ => rfl
  have hz : ∀ d, cfg.fzF 25 d = (false) := fun _ => rfl
  have ht : ∀ d, cfg.tkF 25 d = (false) := fun _ => rfl
  have hr_ : ∀ g, cfg.raw g = (g == 152 || g == 118) := fun _ => rfl
  refine rF_fn rfl rfl Tryz.func25 rfl ?_
  repeat' first | simp (disch := first | omega | assumption | decide) only [go_sem, hm, hz, ht, hr_, store_ptr, get_end_, get_old_, get_set_self_, get_set_ne_, len_set_, len_add_, bind_some_, map_some_, oneD_fold] | refine ifP_in (fun _ => ?_) fun _ => ?_
  refine rL_loop (σ := Nat) (fun i e K => H <+: K ∧ e 6 = .mr j off len 1 false ∧ e 7 = .i len ∧ e 8 = .i i ∧ e 3 = .sl ((((l.drop off).take i).map Ho.hx).map AV.str) ∧ i ≤ len) (fun i => len - i) 0 ?_ ?_
  · refine ⟨List.prefix_refl _, ?_, ?_, ?_, ?_, by omega⟩
    all_goals first | (simp (disch := first | assumption | omega) only [go_sem]; done) | (simp (disch := first | assumption | omega) only [go_sem]; rfl)
  · rintro i e K ⟨hK, g6, g7, g8, g3, i1⟩
    have hjK : K[j]? = some (l.map uA) := by
      obtain ⟨T, rfl⟩ := hK
      rw [List.getElem?_append_left (List.getElem?_eq_some_iff.1 hj).1]; exact hj
    by_cases hi : i < len
    · have hoi : off + i < l.length := by omega
      have hpi : ∀ {s : Option Nat}, partD (some false) s (l.map uA) (off + i) = some (uA l[off + i]) := fun {s} => by rw [partD_map, List.getElem?_eq_getElem hoi]; rfl
      have hv := hu _ (List.getElem_mem hoi)
      have hts : (l.drop off).take (i + 1) = (l.drop off).take i ++ [l[off + i]] := by
        rw [List.take_succ_eq_append_getElem (by simp; omega)]
        simp
      generalize l[off + i] = v at *
      repeat' first | simp (disch := first | omega | assumption | decide) only [go_sem, hm, hz, ht, hr_, g6, g7, g8, g3, hjK, hpi, plainD_map, store_ptr, get_end_, get_old_, get_set_self_, get_set_ne_, len_set_, len_add_, bind_some_, map_some_, oneD_fold] | refine ifP_in (fun _ => ?_) fun _ => ?_
      refine rF_use (bits_e v hv.1 hv.2) ?_
      rintro _ K1 ⟨rfl, T1, rfl⟩
      have hln : (((l.drop off).take i).map Ho.hx).length ≤ 8 := by simp; omega
      repeat' first | simp (disch := first | omega | assumption | decide) only [go_sem, hm, hz, ht, hr_, g6, g7, g8, g3, store_ptr, get_end_, get_old_, get_set_self_, get_set_ne_, len_set_, len_add_, bind_some_, map_some_, oneD_fold] | refine ifP_in (fun _ => ?_) fun _ => ?_
      exact ⟨i + 1, ⟨hK.trans (List.prefix_append _ _), rfl, by rw [hts]; simp, by omega⟩, by omega⟩
    · obtain rfl : i = len := by omega
      have hjl := Ho.tx6_len ((l.drop off).take i)
      have hll : ((l.drop off).take i).length ≤ 8 := by simp; omega
      have hj := @join_e K (((l.drop off).take i).map Ho.hx) 58 (by show (Ho.tx6 _).length ≤ _; omega) (by simp; omega)
      repeat' first | simp (disch := first | omega | assumption | decide) only [go_sem, hm, hz, ht, hr_, g6, g7, g8, g3, hj, store_ptr, get_end_, get_old_, get_set_self_, get_set_ne_, len_set_, len_add_, bind_some_, map_some_, oneD_fold] | refine ifP_in (fun _ => ?_) fun _ => ?_
      exact ⟨rfl, hK⟩
theorem text0_w : WF Tryz.prog cfg 25 [.sl []] H (fun r H' => r = .str [] ∧ H <+: H') := by
  have hm : ∀ d, cfg.muF 25 d = (false) := fun _ => rfl
  have hz : ∀ d, cfg.fzF 25 d = (false) := fun _ => rfl
  have ht : ∀ d, cfg.tkF 25 d = (false) := fun _ => rfl
  have hr_ : ∀ g, cfg.raw g = (g == 152 || g == 118) := fun _ => rfl
  refine rF_fn rfl rfl Tryz.func25 rfl ?_
  repeat' first | simp (disch := first | omega | assumption | decide) only [go_sem, hm, hz, ht, hr_, store_ptr, get_end_, get_old_, get_set_self_, get_set_ne_, len_set_, len_add_, bind_some_, map_some_, oneD_fold] | refine ifP_in (fun _ => ?_) fun _ => ?_
  refine rL_loop (σ := Unit) (fun i e H9 => H9 = H ∧ e 7 = .i 0 ∧ e 8 = .i 0 ∧ e 3 = .sl []) (fun i => 0) () ?_ ?_
  · refine ⟨rfl, ?_, ?_, ?_⟩
    all_goals first | (simp (disch := first | assumption | omega) only [go_sem]; done) | (simp (disch := first | assumption | omega) only [go_sem]; rfl)
  · rintro i e H9 ⟨rfl, g7, g8, g3⟩
    have hj : ∀ {Q : K (AV → Heap → Prop)}, @rF Tryz.prog cfg 23 [.sl [], .str [58]] H9 Q = Q.v (.str []) H9 := fun {Q} => @join_e H9 [] 58 (by simp [Sp.join]) (by simp) Q
    repeat' first | simp (disch := first | omega | assumption | decide) only [go_sem, hm, hz, ht, hr_, g7, g8, g3, hj, store_ptr, get_end_, get_old_, get_set_self_, get_set_ne_, len_set_, len_add_, bind_some_, map_some_, oneD_fold] | refine ifP_in (fun _ => ?_) fun _ => ?_
    exact List.prefix_refl _
section
variable {P : Program} {t e : TypeId}
theorem sliceP [h1 : UndIs P t (.array 8 e)] [h2 : SizeIs P e 1] [h3 : AggIs P e false] [h4 : SizeIs P t 8] {l : List Int} (hl : l.length = 8) {K : Heap} (hj : K[H.length]? = some (l.map uA)) {lo hi : Option AV} :
    sliceM P K t (.ptr H.length 0) lo hi none = (bound 8 hi 8).bind fun h => (bound h lo 0).bind fun o => some (if o < 8 then .mr H.length o (h - o) 1 false else .sl [], K) := by
  unfold sliceM
  simp only [h1.h, h2.h, h3.h, hj, Option.bind_some]
  rw [if_pos ⟨by omega, plainRow_one one_u, by simp [hl], by omega, h4.h⟩]
  simp only [Nat.mul_one, Nat.zero_add]
theorem sliceP1 [h1 : UndIs P t (.array 8 e)] [h2 : SizeIs P e 1] [h3 : AggIs P e false] [h4 : SizeIs P t 8] {l : List Int} (hl : l.length = 8) {K : Heap} (hj : K[H.length]? = some (l.map uA)) :
    sliceM P K t (.ptr H.length 0) none none none = some (.mr H.length 0 8 1 false, K) := by
  rw [sliceP hl hj]; rfl
theorem sliceP2 [h1 : UndIs P t (.array 8 e)] [h2 : SizeIs P e 1] [h3 : AggIs P e false] [h4 : SizeIs P t 8] {l : List Int} (hl : l.length = 8) {K : Heap} (hj : K[H.length]? = some (l.map uA)) {a : Int} (h0 : 0 ≤ a) (h8 : a ≤ 8) :
    sliceM P K t (.ptr H.length 0) none (some (.v (.int .i64 a))) none = some (.mr H.length 0 a.toNat 1 false, K) := by
  rw [sliceP hl hj]
  have b2 : bound 8 (some (.v (.int .i64 a))) 8 = some a.toNat := by
    unfold bound
    simp only
    rw [if_pos ⟨by omega, by omega⟩]
  rw [b2, Option.bind_some]
  have b1 : bound a.toNat none 0 = some 0 := rfl
  rw [b1, Option.bind_some, if_pos (by omega), Nat.sub_zero]
theorem sliceP3 [h1 : UndIs P t (.array 8 e)] [h2 : SizeIs P e 1] [h3 : AggIs P e false] [h4 : SizeIs P t 8] {l : List Int} (hl : l.length = 8) {K : Heap} (hj : K[H.length]? = some (l.map uA)) {a : Int} (h0 : 0 ≤ a) (h8 : a ≤ 8) :
    sliceM P K t (.ptr H.length 0) (some (.v (.int .i64 a))) none none = some (if a.toNat < 8 then .mr H.length a.toNat (8 - a.toNat) 1 false else .sl [], K) := by
  rw [sliceP hl hj]
  have b1 : bound 8 none 8 = some 8 := rfl
  rw [b1, Option.bind_some]
  have b2 : bound 8 (some (.v (.int .i64 a))) 0 = some a.toNat := by
    unfold bound
    simp only
    rw [if_pos ⟨by omega, by omega⟩]
  rw [b2, Option.bind_some]
end
theorem print6_w (l : List Int) (hl : l.length = 8) (hu : Ho.u16s l) : WF Tryz.prog cfg 10 [.agg (l.map uA)] H (fun r H' => r = .str (Ho.pr6 l) ∧ H <+: H') := by
  have hm : ∀ d, cfg.muF 10 d = (d == 12 || d == 15 || d == 21) := fun _ => rfl
  have hz : ∀ d, cfg.fzF 10 d = (false) := fun _ => rfl
  have ht : ∀ d, cfg.tkF 10 d = (false) := fun _ => rfl
  have hr_ : ∀ g, cfg.raw g = (g == 152 || g == 118) := fun _ => rfl
  refine rF_fn rfl rfl Tryz.func10 rfl ?_
  have ho := one_u (vs := l)
  have hml : (l.map uA).length = 8 := by simp [hl]
  have htk : (l.map uA).take 8 = l.map uA := List.take_of_length_le (by omega)
  obtain ⟨z1, z2, z3, z4⟩ := Ho.zr_ok l
  have hp : Ho.pr6 l = if (Ho.zr l).2 < 2 then Ho.tx6 l else Ho.tx6 (l.take (Ho.zr l).1.toNat) ++ Ho.DC ++ Ho.tx6 (l.drop ((Ho.zr l).1 + (Ho.zr l).2).toNat) := rfl
  rw [hp]
  repeat' first | simp (disch := first | omega | assumption | decide) only [go_sem, hm, hz, ht, hr_, ho, plainD_map, hml, htk, Nat.le_refl, if_true, store_ptr, get_end_, get_old_, get_set_self_, get_set_ne_, len_set_, len_add_, bind_some_, map_some_, oneD_fold] | refine ifP_in (fun _ => ?_) fun _ => ?_
  refine rF_use (zeros_w l hl hu) ?_
  rintro _ K ⟨rfl, T, rfl⟩
  generalize (Ho.zr l).1 = a at *
  generalize (Ho.zr l).2 = n at *
  have hj : (H ++ [l.map uA] ++ T)[H.length]? = some (l.map uA) := by simp
  have s1 := fun {e : TypeId} [h1 : UndIs Tryz.prog 24 (.array 8 e)] [h2 : SizeIs Tryz.prog e 1] [h3 : AggIs Tryz.prog e false] => sliceP1 (P := Tryz.prog) (t := 24) (e := e) hl hj
  by_cases hn : n < 2
  · rw [if_pos hn]
    repeat' first | simp (disch := first | omega | assumption | decide) only [go_sem, hm, hz, ht, hr_, s1, store_ptr, get_end_, get_old_, get_set_self_, get_set_ne_, len_set_, len_add_, bind_some_, map_some_, oneD_fold] | refine ifP_in (fun _ => ?_) fun _ => ?_
    refine rF_use (text_w l hu H.length 0 8 hj (by omega) (by omega)) ?_
    rintro _ H2 ⟨rfl, T2, rfl⟩
    repeat' first | simp (disch := first | omega | assumption | decide) only [go_sem, hm, hz, ht, hr_, store_ptr, get_end_, get_old_, get_set_self_, get_set_ne_, len_set_, len_add_, bind_some_, map_some_, oneD_fold] | refine ifP_in (fun _ => ?_) fun _ => ?_
    rw [List.take_of_length_le (show l.length ≤ 8 by omega)]
    exact ⟨rfl, by simp only [List.append_assoc]; exact List.prefix_append _ _⟩
  · rw [if_neg hn]
    have s2 := fun {e : TypeId} [h1 : UndIs Tryz.prog 24 (.array 8 e)] [h2 : SizeIs Tryz.prog e 1] [h3 : AggIs Tryz.prog e false] => sliceP2 (P := Tryz.prog) (t := 24) (e := e) hl hj (a := a) z1 (by omega)
    repeat' first | simp (disch := first | omega | assumption | decide) only [go_sem, hm, hz, ht, hr_, s2, hj, plainD_map, hml, htk, Nat.le_refl, if_true, store_ptr, get_end_, get_old_, get_set_self_, get_set_ne_, len_set_, len_add_, bind_some_, map_some_, oneD_fold] | refine ifP_in (fun _ => ?_) fun _ => ?_
    refine rF_use (text_w l hu H.length 0 a.toNat hj (by omega) (by omega)) ?_
    rintro _ H2 ⟨rfl, T2, rfl⟩
    have hj2 : (H ++ [l.map uA] ++ T ++ T2)[H.length]? = some (l.map uA) := by simp
    have s3 := fun {e : TypeId} [h1 : UndIs Tryz.prog 24 (.array 8 e)] [h2 : SizeIs Tryz.prog e 1] [h3 : AggIs Tryz.prog e false] => sliceP3 (P := Tryz.prog) (t := 24) (e := e) hl hj2 (a := a + n) (by omega) (by omega)
    have hA : (Ho.tx6 (l.take a.toNat)).length ≤ 40 := by
      have := Ho.tx6_len (l.take a.toNat)
      rw [List.length_take] at this; omega
    have hB : (Ho.tx6 (l.drop (a + n).toNat)).length ≤ 40 := by
      have := Ho.tx6_len (l.drop (a + n).toNat)
      rw [List.length_drop] at this; omega
    have hC : (Ho.tx6 (l.take a.toNat) ++ [58, 58]).length ≤ 42 := by simp; omega
    have hD : ([58, 58] : List UInt8).length = 2 := rfl
    have hN : ([] : List UInt8).length = 0 := rfl
    by_cases h8 : (a + n).toNat < 8
    · rw [if_pos h8] at s3
      repeat' first | simp (disch := first | omega | assumption | decide) only [go_sem, hm, hz, ht, hr_, s3, hj, hj2, plainD_map, hml, htk, Nat.le_refl, if_true, hD, store_ptr, get_end_, get_old_, get_set_self_, get_set_ne_, len_set_, len_add_, bind_some_, map_some_, oneD_fold] | refine ifP_in (fun _ => ?_) fun _ => ?_
      refine rF_use (text_w l hu H.length (a + n).toNat (8 - (a + n).toNat) hj2 (by omega) (by omega)) ?_
      rintro _ H3 ⟨rfl, T3, rfl⟩
      have htd : (l.drop (a + n).toNat).take (8 - (a + n).toNat) = l.drop (a + n).toNat := List.take_of_length_le (by simp; omega)
      rw [htd]
      have hj3 : (H ++ [l.map uA] ++ T ++ T2 ++ T3)[H.length]? = some (l.map uA) := by simp
      repeat' first | simp (disch := first | omega | assumption | decide) only [go_sem, hm, hz, ht, hr_, hj3, plainD_map, hml, htk, Nat.le_refl, if_true, hD, List.length_nil, store_ptr, get_end_, get_old_, get_set_self_, get_set_ne_, len_set_, len_add_, bind_some_, map_some_, oneD_fold] | refine ifP_in (fun _ => ?_) fun _ => ?_
      exact ⟨rfl, by simp only [List.append_assoc]; exact List.prefix_append _ _⟩
    · rw [if_neg h8] at s3
      repeat' first | simp (disch := first | omega | assumption | decide) only [go_sem, hm, hz, ht, hr_, s3, hj, hj2, plainD_map, hml, htk, Nat.le_refl, if_true, hD, store_ptr, get_end_, get_old_, get_set_self_, get_set_ne_, len_set_, len_add_, bind_some_, map_some_, oneD_fold] | refine ifP_in (fun _ => ?_) fun _ => ?_
      refine rF_use text0_w ?_
      rintro _ H3 ⟨rfl, T3, rfl⟩
      have htd : l.drop (a + n).toNat = [] := List.drop_eq_nil_of_le (by omega)
      rw [htd]
      have hj3 : (H ++ [l.map uA] ++ T ++ T2 ++ T3)[H.length]? = some (l.map uA) := by simp
      repeat' first | simp (disch := first | omega | assumption | decide) only [go_sem, hm, hz, ht, hr_, hj3, plainD_map, hml, htk, Nat.le_refl, if_true, hD, List.length_nil, store_ptr, get_end_, get_old_, get_set_self_, get_set_ne_, len_set_, len_add_, bind_some_, map_some_, oneD_fold] | refine ifP_in (fun _ => ?_) fun _ => ?_
      exact ⟨rfl, by simp only [List.append_assoc]; exact List.prefix_append _ _⟩
theorem print_w (k : Int) (n : List UInt8) (v : Int) (l : List Int) (hl : l.length = 8) (hu : Ho.u16s l) (h0 : 0 ≤ v) (h1 : v < 4294967296) : WF Tryz.prog cfg 13 [.agg (hcells k n v l)] H (fun r H' => r = .str (pr k n v l) ∧ H <+: H') := by
  have hm : ∀ d, cfg.muF 13 d = (false) := fun _ => rfl
  have hz : ∀ d, cfg.fzF 13 d = (false) := fun _ => rfl
  have ht : ∀ d, cfg.tkF 13 d = (false) := fun _ => rfl
  have hr_ : ∀ g, cfg.raw g = (g == 152 || g == 118) := fun _ => rfl
  refine rF_fn rfl rfl Tryz.func13 rfl ?_
  have hco := hcells_one (k := k) (n := n) (v := v) (l := l)
  have hml : (l.map uA).length = 8 := by simp [hl]
  have htk : (l.map uA).take 8 = l.map uA := List.take_of_length_le (by omega)
  have hcd : hcells k n v l = .i k :: .str n :: .v (.int .u32 v) :: l.map uA := rfl
  have hp : pr k n v l = if k = 1 ∨ k = 4 then n else if k = 2 then Ho.pr4 v else if k = 3 then [91] ++ Ho.pr6 l ++ [93] else [] := rfl
  rw [hp]
  rw [hcd] at hco ⊢
  have hpl : ∀ {x : Option AV}, plainD (.i k :: .str n :: .v (.int .u32 v) :: l.map uA) x = x := fun {x} => by
    unfold plainD
    rw [if_pos (plainRow_one hco)]
  have hd91 : ([91] : List UInt8).length = 1 := rfl
  have hd93 : ([93] : List UInt8).length = 1 := rfl
  have hpx : ∀ x : List AV, H <+: H ++ [x] := fun x => List.prefix_append _ _
  by_cases k1 : k = 1
  · subst k1
    rw [if_pos (.inl rfl)]
    repeat' first | simp (disch := first | omega | assumption | decide) only [go_sem, hm, hz, ht, hr_, hco, hpl, hml, htk, Nat.le_refl, if_true, store_ptr, get_end_, get_old_, get_set_self_, get_set_ne_, len_set_, len_add_, bind_some_, map_some_, oneD_fold] | refine ifP_in (fun _ => ?_) fun _ => ?_
    exact hpx _
  by_cases k4 : k = 4
  · subst k4
    rw [if_pos (.inr rfl)]
    repeat' first | simp (disch := first | omega | assumption | decide) only [go_sem, hm, hz, ht, hr_, hco, hpl, hml, htk, Nat.le_refl, if_true, store_ptr, get_end_, get_old_, get_set_self_, get_set_ne_, len_set_, len_add_, bind_some_, map_some_, oneD_fold] | refine ifP_in (fun _ => ?_) fun _ => ?_
    exact hpx _
  rw [if_neg (by rintro (h | h); exact k1 h; exact k4 h)]
  by_cases k2 : k = 2
  · subst k2
    rw [if_pos rfl]
    repeat' first | simp (disch := first | omega | assumption | decide) only [go_sem, hm, hz, ht, hr_, hco, hpl, hml, htk, Nat.le_refl, if_true, store_ptr, get_end_, get_old_, get_set_self_, get_set_ne_, len_set_, len_add_, bind_some_, map_some_, oneD_fold] | refine ifP_in (fun _ => ?_) fun _ => ?_
    refine rF_use (print4_w v h0 h1) ?_
    rintro _ H1 ⟨rfl, rfl⟩
    repeat' first | simp (disch := first | omega | assumption | decide) only [go_sem, hm, hz, ht, hr_, store_ptr, get_end_, get_old_, get_set_self_, get_set_ne_, len_set_, len_add_, bind_some_, map_some_, oneD_fold] | refine ifP_in (fun _ => ?_) fun _ => ?_
    exact hpx _
  rw [if_neg k2]
  by_cases k3 : k = 3
  · subst k3
    rw [if_pos rfl]
    have hl6 := Ho.pr6_len l
    have hcc : ([91] ++ Ho.pr6 l).length ≤ 90 := by simp; omega
    repeat' first | simp (disch := first | omega | assumption | decide) only [go_sem, hm, hz, ht, hr_, hco, hpl, hml, htk, Nat.le_refl, if_true, store_ptr, get_end_, get_old_, get_set_self_, get_set_ne_, len_set_, len_add_, bind_some_, map_some_, oneD_fold] | refine ifP_in (fun _ => ?_) fun _ => ?_
    refine rF_use (print6_w l hl hu) ?_
    rintro _ H1 ⟨rfl, T, rfl⟩
    repeat' first | simp (disch := first | omega | assumption | decide) only [go_sem, hm, hz, ht, hr_, hd91, hd93, store_ptr, get_end_, get_old_, get_set_self_, get_set_ne_, len_set_, len_add_, bind_some_, map_some_, oneD_fold] | refine ifP_in (fun _ => ?_) fun _ => ?_
    rw [List.append_assoc]
    exact List.prefix_append _ _
  · rw [if_neg k3]
    repeat' first | simp (disch := first | omega | assumption | decide) only [go_sem, hm, hz, ht, hr_, hco, hpl, hml, htk, Nat.le_refl, if_true, k1, k2, k3, k4, store_ptr, get_end_, get_old_, get_set_self_, get_set_ne_, len_set_, len_add_, bind_some_, map_some_, oneD_fold] | refine ifP_in (fun _ => ?_) fun _ => ?_
    exact hpx _
end Hs
end Go.Proofs
/- The plain law of hosts: there and back. -/
set_option linter.unusedVariables false
set_option linter.unusedSimpArgs false
namespace Go.Proofs
open Go.Lv
namespace Hs
theorem p6_bnd (s : List UInt8) : Ho.u16s (Ho.p6 s).1 := by
  have hz : Ho.u16s (Ho.zeros 8) := fun v hv => by
    have := List.eq_of_mem_replicate hv
    omega
  unfold Ho.p6
  split
  · exact hz
  · split
    · rename_i l h
      intro v hv
      unfold Ho.b6 at h
      split at h
      · obtain ⟨a, ha, h⟩ := Option.bind_eq_some_iff.1 h
        obtain ⟨b, hb, h⟩ := Option.bind_eq_some_iff.1 h
        split at h
        · injection h with h; subst h
          rcases List.mem_append.1 hv with hv | hv
          · rcases List.mem_append.1 hv with hv | hv
            · exact Ho.list6_bnd ha v hv
            · have := List.eq_of_mem_replicate hv
              omega
          · exact Ho.list6_bnd hb v hv
        · cases h
      · obtain ⟨a, ha, h⟩ := Option.bind_eq_some_iff.1 h
        split at h
        · injection h with h; subst h; exact Ho.list6_bnd ha v hv
        · cases h
    · exact hz
theorem wrap_bnd (x : Int) : 0 ≤ IntKind.u32.wrap x ∧ IntKind.u32.wrap x < 4294967296 := by
  unfold IntKind.wrap
  simp [IntKind.bits, IntKind.signed]
  omega
theorem enc1_ok : ∀ k : Fin 256, ∀ c ∈ Ho.enc1 (UInt8.ofNat k.val), Ho.ctl c = false ∧ (c ∈ BAD → c = UInt8.ofNat k.val) := by decide +kernel
theorem enc_ok {s : List UInt8} (hb : bad s = false) : ∀ c ∈ Ho.enc s, Ho.ctl c = false ∧ c ∉ BAD := by
  intro c hc
  obtain ⟨x, hx, hc⟩ := List.mem_flatMap.1 hc
  have := Ho.fin_byte (p := fun x => ∀ c ∈ Ho.enc1 x, Ho.ctl c = false ∧ (c ∈ BAD → c = x)) enc1_ok x c hc
  exact ⟨this.1, fun hm => bad_mem hb x hx (this.2 hm ▸ hm)⟩
theorem enc_id : ∀ {s : List UInt8}, (∀ c ∈ s, Ho.ctl c = false) → Ho.enc s = s := by
  intro s
  induction s with
  | nil => intro _; rfl
  | cons c r ih =>
    intro h
    have h1 : Ho.enc1 c = [c] := by unfold Ho.enc1; rw [h c (by simp), if_neg (by simp)]
    show Ho.enc1 c ++ Ho.enc r = _
    rw [h1, ih fun x hx => h x (by simp [hx])]; rfl
theorem enc_ne {s : List UInt8} (h : s ≠ []) : Ho.enc s ≠ [] := by
  cases s with
  | nil => exact absurd rfl h
  | cons c r =>
    show Ho.enc1 c ++ Ho.enc r ≠ []
    unfold Ho.enc1
    split <;> simp
/-- A host that was read. -/
def good (k : Int) (n : List UInt8) (v : Int) (l : List Int) (sp : Bool) : Prop :=
  l.length = 8 ∧ Ho.u16s l ∧ 0 ≤ v ∧ v < 4294967296 ∧ n.length ≤ 12000 ∧ (sp = true → k = 1 ∨ k = 2 ∨ k = 3) ∧ (sp = false → k = 0 ∨ k = 3 ∨ k = 4) ∧
  ((pr k n v l).length ≤ 4000 → prs (pr k n v l) sp = (hcells k n v l, 0) ∧ prs (pr k n v l) (decide (k = 1) || decide (k = 2)) = (hcells k n v l, 0))
theorem zeros_u : Ho.u16s (Ho.zeros 8) := fun v hv => by
  have := List.eq_of_mem_replicate hv
  omega
theorem z8 : (Ho.zeros 8).length = 8 := rfl
theorem back (s : List UInt8) (sp : Bool) : ((prs s sp).2 ≠ 0 → (prs s sp).1 = hz0) ∧ ((prs s sp).2 = 0 → ∃ k n v l, (prs s sp).1 = hcells k n v l ∧ good k n v l sp) := by
  have hp : prs s sp = if 4000 < s.length then (hz0, 3) else if s.take 1 = [91] then brk s else if sp = true then dom s
    else if bad s = true then (hz0, 4) else if s = [] then (hz0, 0) else (hcells 4 (Ho.enc s) 0 (Ho.zeros 8), 0) := rfl
  rw [hp]
  clear hp
  by_cases h4 : 4000 < s.length
  · rw [if_pos h4]; exact ⟨fun _ => rfl, fun h => by cases h⟩
  rw [if_neg h4]
  by_cases hb : s.take 1 = [91]
  · rw [if_pos hb]
    unfold brk
    split
    · exact ⟨fun _ => rfl, fun h => by cases h⟩
    split
    · rename_i h6; exact ⟨fun _ => rfl, fun h => absurd h h6⟩
    · refine ⟨fun h => absurd rfl h, fun _ => ⟨3, [], 0, _, rfl, parse6_len _, p6_bnd _, by omega, by omega, by simp, fun _ => by simp, fun _ => by simp, fun _ => ?_⟩⟩
      have e : ∀ l, pr 3 [] 0 l = [91] ++ Ho.pr6 l ++ [93] := fun l => rfl
      rw [e]
      exact ⟨prs_pr6 (parse6_len _) (p6_bnd _) _, prs_pr6 (parse6_len _) (p6_bnd _) _⟩
  rw [if_neg hb]
  cases sp with
  | true =>
    rw [if_pos rfl]
    have hd : dom s = if (Id.toASCII (Ho.lossy (Ho.dec s))).2 ≠ 0 then (hz0, (Id.toASCII (Ho.lossy (Ho.dec s))).2)
      else if (Id.toASCII (Ho.lossy (Ho.dec s))).1 = [] then (hz0, 6)
      else if bad (Id.toASCII (Ho.lossy (Ho.dec s))).1 = true ∨ lows (Id.toASCII (Ho.lossy (Ho.dec s))).1 = true then (hz0, 4)
      else if Ho.ends (Id.toASCII (Ho.lossy (Ho.dec s))).1 = false then (hcells 1 (Id.toASCII (Ho.lossy (Ho.dec s))).1 0 (Ho.zeros 8), 0)
      else if (Ho.p4 8589934592 (Id.toASCII (Ho.lossy (Ho.dec s))).1).2 ≠ 0 then (hz0, (Ho.p4 8589934592 (Id.toASCII (Ho.lossy (Ho.dec s))).1).2)
      else (hcells 2 [] (IntKind.u32.wrap (Ho.p4 8589934592 (Id.toASCII (Ho.lossy (Ho.dec s))).1).1) (Ho.zeros 8), 0) := rfl
    rw [hd]
    clear hd
    by_cases he : (Id.toASCII (Ho.lossy (Ho.dec s))).2 = 0
    · obtain ⟨a1, a2, a3, _⟩ := Id.again he
      rw [if_neg (by rw [he]; simp)]
      generalize (Id.toASCII (Ho.lossy (Ho.dec s))).1 = n at *
      by_cases h0 : n = []
      · rw [if_pos h0]; exact ⟨fun _ => rfl, fun h => by cases h⟩
      rw [if_neg h0]
      by_cases hbl : bad n = true ∨ lows n = true
      · rw [if_pos hbl]; exact ⟨fun _ => rfl, fun h => by cases h⟩
      rw [if_neg hbl]
      have hbn : bad n = false := by cases h : bad n with
        | false => rfl
        | true => exact absurd (.inl h) hbl
      have hln : lows n = false := by cases h : lows n with
        | false => rfl
        | true => exact absurd (.inr h) hbl
      by_cases hen : Ho.ends n = false
      · rw [if_pos hen]
        refine ⟨fun h => absurd rfl h, fun _ => ⟨1, n, 0, _, rfl, z8, zeros_u, by omega, by omega, by omega, fun _ => .inl rfl, (by intro h; cases h), fun _ => ?_⟩⟩
        have e : pr 1 n 0 (Ho.zeros 8) = n := rfl
        have key : prs n true = (hcells 1 n 0 (Ho.zeros 8), 0) := by
          unfold prs
          rw [if_neg (by omega), if_neg (take1_no fun hm => bad_mem hbn _ hm (by simp [BAD])), if_pos rfl]
          rw [dom_same (fun c hc e => lows_mem hln c hc (by subst e; exact .inr (.inl rfl))) (fun c hc => (a2 c hc).1) a3 h0 hbn hln, if_pos hen]
        rw [e]
        exact ⟨key, key⟩
      · rw [if_neg hen]
        split
        · rename_i h; exact ⟨fun _ => rfl, fun h2 => absurd h2 h⟩
        · obtain ⟨w1, w2⟩ := wrap_bnd (Ho.p4 8589934592 n).1
          refine ⟨fun h => absurd rfl h, fun _ => ⟨2, [], _, _, rfl, z8, zeros_u, w1, w2, by simp, fun _ => .inr (.inl rfl), (by intro h; cases h), fun _ => ?_⟩⟩
          have e : ∀ v, pr 2 [] v (Ho.zeros 8) = Ho.pr4 v := fun v => rfl
          rw [e]
          exact ⟨prs_pr4 w1 w2, prs_pr4 w1 w2⟩
    · rw [if_pos he]; exact ⟨fun _ => rfl, fun h => absurd h he⟩
  | false =>
    rw [if_neg (by simp)]
    by_cases hbd : bad s = true
    · rw [if_pos hbd]; exact ⟨fun _ => rfl, fun h => by cases h⟩
    rw [if_neg hbd]
    by_cases h0 : s = []
    · rw [if_pos h0]
      refine ⟨fun h => absurd rfl h, fun _ => ⟨0, [], 0, _, rfl, z8, zeros_u, by omega, by omega, by simp, (by intro h; cases h), fun _ => .inl rfl, fun _ => ⟨rfl, rfl⟩⟩⟩
    · rw [if_neg h0]
      have hbf : bad s = false := by cases h : bad s with
        | false => rfl
        | true => exact absurd h hbd
      have hel := Ho.enc_len s
      have hok := enc_ok hbf
      refine ⟨fun h => absurd rfl h, fun _ => ⟨4, _, 0, _, rfl, z8, zeros_u, by omega, by omega, by omega, (by intro h; cases h), fun _ => .inr (.inr rfl), fun hlen => ?_⟩⟩
      have e : ∀ n, pr 4 n 0 (Ho.zeros 8) = n := fun n => rfl
      rw [e] at hlen ⊢
      have key : prs (Ho.enc s) false = (hcells 4 (Ho.enc s) 0 (Ho.zeros 8), 0) := by
        unfold prs
        rw [if_neg (by omega), if_neg (take1_no fun hm => (hok _ hm).2 (by simp [BAD])), if_neg (by simp), bad_no fun c hc => (hok c hc).2, if_neg (by simp), if_neg (enc_ne h0), enc_id fun c hc => (hok c hc).1]
      exact ⟨key, key⟩
end Hs
end Go.Proofs
/- Walks: may a host be. -/
set_option linter.unusedVariables false
set_option linter.unusedSimpArgs false
namespace Go.Proofs
open Go.Lv
namespace Hs
open Pu Ut Utf In
variable {H : Heap}
theorem guardH : Tryz.prog.eqGuardType Tryz.prog.depth 27 = false := by kernel_rfl
theorem stoodH : Tryz.prog.stoodInHeld 27 = false := by kernel_rfl
theorem eqArr_u : ∀ (l m : List Int), l.length = m.length → eqArr .u16 (l.map uA) (m.map uA) = some (decide (l = m)) := by
  intro l
  induction l with
  | nil => intro m h; cases m with
    | nil => rfl
    | cons _ _ => simp at h
  | cons a l ih =>
    intro m h
    cases m with
    | nil => simp at h
    | cons b m =>
      rw [List.map_cons, List.map_cons, eqArr, if_pos ⟨rfl, rfl⟩, ih m (by simpa using h)]
      simp only [Option.map_some, Option.some.injEq]
      rw [Bool.eq_iff_iff]
      simp
def eqH (k : Int) (n : List UInt8) (v : Int) (l : List Int) (k' : Int) (n' : List UInt8) (v' : Int) (l' : List Int) : Bool := decide (k = k' ∧ n = n' ∧ v = v' ∧ l = l')
theorem bin_hostP {P : Program} {t ti ts tu ta te : TypeId} {k v k' v' : Int} {n n' : List UInt8} {l l' : List Int} {f0 f1 f2 f3 : Field} (hg : P.eqGuardType P.depth t = false) (hsi : P.stoodInHeld t = false) (ht : P.underlying t = some (.struct #[f0, f1, f2, f3]))
    (n0 : f0.name = "_" ↔ False) (n1 : f1.name = "_" ↔ False) (n2 : f2.name = "_" ↔ False) (n3 : f3.name = "_" ↔ False) (t0 : f0.type = ti) (t1 : f1.type = ts) (t2 : f2.type = tu) (t3 : f3.type = ta) (o0 : f0.offset = 0) (o1 : f1.offset = 1) (o2 : f2.offset = 2) (o3 : f3.offset = 3)
    [u0 : UndIs P ti (.int .i64)] [u1 : UndIs P ts .string] [u2 : UndIs P tu (.int .u32)] [u3 : UndIs P ta (.array 8 te)] [u4 : UndIs P te (.int .u16)] [a3 : AggIs P ti false] [a9 : AggIs P ts false] [a22 : AggIs P tu false] [a24 : AggIs P ta true] [s24 : SizeIs P ta 8] [s16 : SizeIs P te 1]
    (hl : l.length = 8) (hl' : l'.length = 8) : bin P .eql t (.agg (hcells k n v l)) (.agg (hcells k' n' v' l')) = some (.b (eqH k n v l k' n' v' l')) := by
  show binAgg P .eql t _ _ = _
  unfold binAgg
  rw [if_pos hg, ht]
  simp only
  rw [if_pos hsi]
  have hc : ∀ k n v l, hcells k n v l = .i k :: .str n :: .v (.int .u32 v) :: l.map uA := fun _ _ _ _ => rfl
  have p0 : ∀ k n v l, partA P ti (hcells k n v l) 0 = some (.i k) := fun k n v l => by unfold partA; rw [a3.h]; rfl
  have p1 : ∀ k n v l, partA P ts (hcells k n v l) 1 = some (.str n) := fun k n v l => by unfold partA; rw [a9.h]; rfl
  have p2 : ∀ k n v l, partA P tu (hcells k n v l) 2 = some (.v (.int .u32 v)) := fun k n v l => by unfold partA; rw [a22.h]; rfl
  have p3 : ∀ k n v l, l.length = 8 → partA P ta (hcells k n v l) 3 = some (.agg (l.map uA)) := fun k n v l h => by
    unfold partA; rw [a24.h, s24.h]
    simp only
    rw [if_pos (by simp [hcells, h])]
    rw [hc]
    simp only [List.drop_succ_cons, List.drop_zero]
    rw [List.take_of_length_le (by simp [h])]
  have q0 : eqA2 P ti (.i k) (.i k') = some (k == k') := by unfold eqA2; rw [u0.h]; simp
  have q1 : eqA2 P ts (.str n) (.str n') = some (n == n') := by
    unfold eqA2; rw [u1.h]
    show some ((⟨⟨n⟩⟩ : ByteArray) == ⟨⟨n'⟩⟩) = _
    congr 1
    rw [Bool.eq_iff_iff, bytes_beq']
    simp
  have q2 : eqA2 P tu (.v (.int .u32 v)) (.v (.int .u32 v')) = some (v == v') := by unfold eqA2; rw [u2.h]; simp
  have q3 : eqA2 P ta (.agg (l.map uA)) (.agg (l'.map uA)) = some (decide (l = l')) := by
    unfold eqA2
    rw [u3.h]
    simp only
    rw [u4.h]
    simp only
    rw [if_pos ⟨s16.h, by simp [hl], by simp [hl']⟩, eqArr_u l l' (by omega)]
  simp only [eqFs, n0, n1, n2, n3, t0, t1, t2, t3, o0, o1, o2, o3, if_false, p0, p1, p2, p3 _ _ _ _ hl, p3 _ _ _ _ hl', q0, q1, q2, q3, Option.bind_some, Option.map_some]
  show some (AV.b _) = _
  congr 2
  unfold eqH
  rw [Bool.eq_iff_iff]
  simp
theorem bin_host {k v k' v' : Int} {n n' : List UInt8} {l l' : List Int} (hl : l.length = 8) (hl' : l'.length = 8) : bin Tryz.prog .eql 27 (.agg (hcells k n v l)) (.agg (hcells k' n' v' l')) = some (.b (eqH k n v l k' n' v' l')) :=
  bin_hostP (ti := 3) (ts := 9) (tu := 22) (ta := 24) (te := 23) guardH stoodH Tryz.underlying27 (by decide) (by decide) (by decide) (by decide) rfl rfl rfl rfl rfl rfl rfl rfl hl hl'
theorem hcells_inj {k v k' v' : Int} {n n' : List UInt8} {l l' : List Int} (h : hcells k n v l = hcells k' n' v' l') : k = k' ∧ n = n' ∧ v = v' ∧ l = l' := by
  have hc : ∀ k n v l, hcells k n v l = .i k :: .str n :: .v (.int .u32 v) :: l.map uA := fun _ _ _ _ => rfl
  rw [hc, hc] at h
  injection h with h1 h
  injection h with h2 h
  injection h with h3 h
  refine ⟨by injection h1 with h1; injection h1, ?_, by injection h3 with h3; injection h3, ?_⟩
  · have : AV.str n = AV.str n' := h2
    injection this with h2
    injection h2 with h2
    injection h2 with h2
    injection h2
  · have inj : ∀ (l m : List Int), l.map uA = m.map uA → l = m := by
      intro l
      induction l with
      | nil => intro m h; cases m with
        | nil => rfl
        | cons _ _ => cases h
      | cons a l ih =>
        intro m h
        cases m with
        | nil => cases h
        | cons b m =>
          rw [List.map_cons, List.map_cons] at h
          injection h with h1 h2
          have e : AV.v (.int .u16 a) = .v (.int .u16 b) := h1
          injection e with e; injection e with _ e
          rw [e, ih m h2]
    exact inj l l' h
noncomputable def mayB (k : Int) (n : List UInt8) (v : Int) (l : List Int) : Bool := @decide (prs (pr k n v l) (decide (k = 1) || decide (k = 2)) = (hcells k n v l, 0)) (Classical.propDecidable _)
theorem pr_len {k v : Int} {n : List UInt8} {l : List Int} (hl : l.length = 8) (hn : n.length ≤ 12000) : (pr k n v l).length ≤ 12000 := by
  unfold pr
  have h1 := Ho.pr4_len v
  have h2 := Ho.pr6_len l
  split
  · exact hn
  split
  · omega
  split
  · simp; omega
  · simp
theorem may_w (k : Int) (n : List UInt8) (v : Int) (l : List Int) (hl : l.length = 8) (hu : Ho.u16s l) (h0 : 0 ≤ v) (h1 : v < 4294967296) (hn : n.length ≤ 12000) : WF Tryz.prog cfg 15 [.agg (hcells k n v l)] H (fun r H' => r = .b (mayB k n v l) ∧ H <+: H') := by
  have hm : ∀ d, cfg.muF 15 d = (false) := fun _ => rfl
  have hz : ∀ d, cfg.fzF 15 d = (false) := fun _ => rfl
  have ht : ∀ d, cfg.tkF 15 d = (false) := fun _ => rfl
  have hr_ : ∀ g, cfg.raw g = (g == 152 || g == 118) := fun _ => rfl
  refine rF_fn rfl rfl Tryz.func15 rfl ?_
  have hco := hcells_one (k := k) (n := n) (v := v) (l := l)
  have hclen := hcells_len (k := k) (n := n) (v := v) hl
  have hcd : hcells k n v l = .i k :: .str n :: .v (.int .u32 v) :: l.map uA := rfl
  have hg0 : ∀ {s : Option Nat}, partD (some false) s (hcells k n v l) 0 = some (.i k) := fun {s} => rfl
  have hpl : ∀ {x : Option AV}, plainD (hcells k n v l) x = x := fun {x} => by
    unfold plainD
    rw [if_pos (plainRow_one hco)]
  have hpn := pr_len (k := k) (v := v) hl hn
  have hprt := @print_w
  obtain ⟨k', n', v', l', hl', hf⟩ := prs_form (pr k n v l) (decide (k = 1) || decide (k = 2))
  have hbin := bin_host (k := k') (n := n') (v := v') (k' := k) (n' := n) (v' := v) hl' hl
  have hc1 := hcells_len (k := k') (n := n') (v := v') hl'
  have ho1 := hcells_one (k := k') (n := n') (v := v') (l := l')
  have hmay : mayB k n v l = (decide ((prs (pr k n v l) (decide (k = 1) || decide (k = 2))).2 = 0) && eqH k' n' v' l' k n v l) := by
    unfold mayB eqH
    rw [Bool.eq_iff_iff, Bool.and_eq_true, @decide_eq_true_iff _ (Classical.propDecidable _), decide_eq_true_iff, decide_eq_true_iff]
    constructor
    · intro h
      rw [h] at hf ⊢
      exact ⟨rfl, hcells_inj hf.symm⟩
    · rintro ⟨e1, rfl, rfl, rfl, rfl⟩
      exact Prod.ext hf e1
  rw [hmay]
  have hpw := fun {H : Heap} => print_w (H := H) k n v l hl hu h0 h1
  have hrw := fun {H : Heap} => parse_w (H := H) (pr k n v l) (decide (k = 1) || decide (k = 2)) (by omega)
  generalize hcc : hcells k n v l = cs at *
  have htk11 : cs.take 11 = cs := List.take_of_length_le (by omega)
  repeat' first | simp (disch := first | omega | assumption | decide) only [go_sem, hm, hz, ht, hr_, hco, hpl, hclen, Nat.le_refl, if_true, htk11, store_ptr, get_end_, get_old_, get_set_self_, get_set_ne_, len_set_, len_add_, bind_some_, map_some_, oneD_fold] | refine ifP_in (fun _ => ?_) fun _ => ?_
  refine rF_use hpw ?_
  rintro _ H1 ⟨rfl, T, rfl⟩
  have ga : (H ++ [cs] ++ T)[H.length]? = some cs := by simp
  generalize hcc1 : hcells k' n' v' l' = c1 at *
  generalize hEr : (prs (pr k n v l) (decide (k = 1) || decide (k = 2))).2 = er at *
  rw [hf] at hrw
  have z0l := z0l
  have z0o := z0o
  have htk1 : c1.take 11 = c1 := List.take_of_length_le (by omega)
  have hpl1 : ∀ {x : Option AV}, plainD c1 x = x := fun {x} => by
    unfold plainD
    rw [if_pos (plainRow_one ho1)]
  by_cases k1 : k = 1
  · have hb : (decide (k = 1) || decide (k = 2)) = true := by simp [k1]
    rw [hb] at hrw
    have kT : (k = 1) = True := eq_true k1
    have kT2 : decide (k = 1) = true := decide_eq_true k1
    repeat' first | simp (disch := first | omega | assumption | decide) only [go_sem, hm, hz, ht, hr_, hco, hpl, hclen, Nat.le_refl, if_true, htk11, ga, hg0, kT, kT2, store_ptr, get_end_, get_old_, get_set_self_, get_set_ne_, len_set_, len_add_, bind_some_, map_some_, oneD_fold] | refine ifP_in (fun _ => ?_) fun _ => ?_
    refine rF_use hrw ?_
    rintro _ H2 ⟨rfl, T2, rfl⟩
    have gb : (H ++ [cs] ++ T ++ T2 ++ [c1])[H.length]? = some cs := by simp
    have gc : (H ++ [cs] ++ T ++ T2)[H.length]? = some cs := by simp
    have gd : (H ++ [cs] ++ T ++ T2 ++ [hz0])[H.length]? = some cs := by simp
    by_cases he : er = 0
    · subst he
      rw [decide_eq_true rfl, Bool.true_and]
      repeat' first | simp (disch := first | omega | assumption | decide) only [go_sem, hm, hz, ht, hr_, ZH, storeH1, hpl, hpl1, hclen, hc1, htk1, Nat.le_refl, if_true, htk11, gb, gc, gd, ga, hg0, hbin, store_ptr, get_end_, get_old_, get_set_self_, get_set_ne_, len_set_, len_add_, bind_some_, map_some_, oneD_fold] | refine ifP_in (fun _ => ?_) fun _ => ?_
      simp only [List.append_assoc]
      exact List.prefix_append _ _
    · rw [decide_eq_false he, Bool.false_and]
      repeat' first | simp (disch := first | omega | assumption | decide) only [go_sem, hm, hz, ht, hr_, ZH, storeH1, hpl, hpl1, hclen, hc1, htk1, Nat.le_refl, if_true, htk11, gb, gc, gd, ga, hg0, store_ptr, get_end_, get_old_, get_set_self_, get_set_ne_, len_set_, len_add_, bind_some_, map_some_, oneD_fold] | refine ifP_in (fun _ => ?_) fun _ => ?_
      simp only [List.append_assoc]
      exact List.prefix_append _ _
  · have hb : (decide (k = 1) || decide (k = 2)) = decide (k = 2) := by simp [k1]
    rw [hb] at hrw
    repeat' first | simp (disch := first | omega | assumption | decide) only [go_sem, hm, hz, ht, hr_, hco, hpl, hclen, Nat.le_refl, if_true, htk11, ga, hg0, k1, store_ptr, get_end_, get_old_, get_set_self_, get_set_ne_, len_set_, len_add_, bind_some_, map_some_, oneD_fold] | refine ifP_in (fun _ => ?_) fun _ => ?_
    refine rF_use hrw ?_
    rintro _ H2 ⟨rfl, T2, rfl⟩
    have gb : (H ++ [cs] ++ T ++ T2 ++ [c1])[H.length]? = some cs := by simp
    have gc : (H ++ [cs] ++ T ++ T2)[H.length]? = some cs := by simp
    have gd : (H ++ [cs] ++ T ++ T2 ++ [hz0])[H.length]? = some cs := by simp
    by_cases he : er = 0
    · subst he
      rw [decide_eq_true rfl, Bool.true_and]
      repeat' first | simp (disch := first | omega | assumption | decide) only [go_sem, hm, hz, ht, hr_, ZH, storeH1, hpl, hpl1, hclen, hc1, htk1, Nat.le_refl, if_true, htk11, gb, gc, gd, ga, hg0, hbin, store_ptr, get_end_, get_old_, get_set_self_, get_set_ne_, len_set_, len_add_, bind_some_, map_some_, oneD_fold] | refine ifP_in (fun _ => ?_) fun _ => ?_
      simp only [List.append_assoc]
      exact List.prefix_append _ _
    · rw [decide_eq_false he, Bool.false_and]
      repeat' first | simp (disch := first | omega | assumption | decide) only [go_sem, hm, hz, ht, hr_, ZH, storeH1, hpl, hpl1, hclen, hc1, htk1, Nat.le_refl, if_true, htk11, gb, gc, gd, ga, hg0, store_ptr, get_end_, get_old_, get_set_self_, get_set_ne_, len_set_, len_add_, bind_some_, map_some_, oneD_fold] | refine ifP_in (fun _ => ?_) fun _ => ?_
      simp only [List.append_assoc]
      exact List.prefix_append _ _
end Hs
end Go.Proofs
/- Walks: the law of hosts, there and back. -/
set_option linter.unusedVariables false
set_option linter.unusedSimpArgs false
namespace Go.Proofs
open Go.Lv
namespace Hs
open Pu Ut Utf In
variable {H : Heap}
theorem back_w (s : List UInt8) (sp : Bool) (hs : s.length ≤ 140737488355328) : WF Tryz.prog cfg 5 [.str s, .b sp] H (fun r H' => r = .b true) := by
  have hm : ∀ d, cfg.muF 5 d = (false) := fun _ => rfl
  have hz : ∀ d, cfg.fzF 5 d = (false) := fun _ => rfl
  have ht : ∀ d, cfg.tkF 5 d = (false) := fun _ => rfl
  have hr_ : ∀ g, cfg.raw g = (g == 152 || g == 118) := fun _ => rfl
  refine rF_fn rfl rfl Tryz.func5 rfl ?_
  by_cases h5 : 5000 < s.length
  · repeat' first | simp (disch := first | omega | assumption | decide) only [go_sem, hm, hz, ht, hr_, first_e] | refine ifP_in (fun _ => ?_) fun _ => ?_
  have z0l := z0l
  have z0o := z0o
  obtain ⟨b1, b2⟩ := back s sp
  by_cases he : (prs s sp).2 = 0
  · obtain ⟨k, n, v, l, hf, hl, hu, h0, h1, hn, ks, kn, hgood⟩ := b2 he
    have hall : (sp = true ∧ (k = 1 ∨ k = 2 ∨ k = 3)) ∨ (sp = false ∧ (k = 0 ∨ k = 3 ∨ k = 4)) := by
      cases sp with
      | true => exact .inl ⟨rfl, ks rfl⟩
      | false => exact .inr ⟨rfl, kn rfl⟩
    clear ks kn
    have hcl := hcells_len (k := k) (n := n) (v := v) hl
    have hco := hcells_one (k := k) (n := n) (v := v) (l := l)
    have hg0 : ∀ {s : Option Nat}, partD (some false) s (hcells k n v l) 0 = some (.i k) := fun {s} => rfl
    have hpw := fun {H : Heap} => print_w (H := H) k n v l hl hu h0 h1
    have hpn := pr_len (k := k) (v := v) hl hn
    have hsame := fun {H : Heap} => same_r (H := H) k n v l hl
    have hmw := fun {H : Heap} => may_w (H := H) k n v l hl hu h0 h1 hn
    have hlong : ¬ (pr k n v l).length ≤ 4000 → prs (pr k n v l) sp = (hz0, 3) := fun h => by unfold prs; rw [if_pos (by omega)]
    have hmb : (pr k n v l).length ≤ 4000 → mayB k n v l = true := fun h => by
      unfold mayB
      exact @decide_eq_true _ (Classical.propDecidable _) (hgood h).2
    have hq := fun {H : Heap} => parse_w (H := H) (pr k n v l) sp (by omega)
    generalize pr k n v l = t at *
    generalize hcc : hcells k n v l = cs at *
    have htk11 : cs.take 11 = cs := List.take_of_length_le (by omega)
    have hpl : ∀ {x : Option AV}, plainD cs x = x := fun {x} => by
      unfold plainD
      rw [if_pos (plainRow_one hco)]
    have hpz : ∀ {x : Option AV}, plainD hz0 x = x := fun {x} => by
      unfold plainD
      rw [if_pos (plainRow_one z0o)]
    have htkz : hz0.take 11 = hz0 := rfl
    rcases hall with ⟨rfl, rfl | rfl | rfl⟩ | ⟨rfl, rfl | rfl | rfl⟩
    · repeat' first | simp (disch := first | omega | assumption | decide) only [go_sem, hm, hz, ht, hr_, first_e, store_ptr, get_end_, get_old_, get_set_self_, get_set_ne_, len_set_, len_add_, bind_some_, map_some_, oneD_fold] | refine ifP_in (fun _ => ?_) fun _ => ?_
      refine rF_use (parse_w s _ (by omega)) ?_
      rintro _ H1 ⟨rfl, T1, rfl⟩
      rw [hf, he]
      repeat' first | simp (disch := first | omega | assumption | decide) only [go_sem, hm, hz, ht, hr_, first_e, ZH, storeH1, hpl, hcl, Nat.le_refl, if_true, htk11, store_ptr, get_end_, get_old_, get_set_self_, get_set_ne_, len_set_, len_add_, bind_some_, map_some_, oneD_fold] | refine ifP_in (fun _ => ?_) fun _ => ?_
      refine rF_use hpw ?_
      rintro _ H2 ⟨rfl, T2, rfl⟩
      repeat' first | simp (disch := first | omega | assumption | decide) only [go_sem, hm, hz, ht, hr_, first_e, store_ptr, get_end_, get_old_, get_set_self_, get_set_ne_, len_set_, len_add_, bind_some_, map_some_, oneD_fold] | refine ifP_in (fun _ => ?_) fun _ => ?_
      refine rF_use hq ?_
      rintro _ H3 ⟨rfl, T3, rfl⟩
      by_cases hlen : t.length ≤ 4000
      · rw [(hgood hlen).1]
        have ga : (H ++ T1 ++ [cs] ++ T2 ++ T3 ++ [cs])[(H ++ T1).length]? = some cs := by simp
        repeat' first | simp (disch := first | omega | assumption | decide) only [go_sem, hm, hz, ht, hr_, first_e, ZH, storeH1, hpl, hcl, Nat.le_refl, if_true, htk11, ga, hg0, store_ptr, get_end_, get_old_, get_set_self_, get_set_ne_, len_set_, len_add_, bind_some_, map_some_, oneD_fold] | refine ifP_in (fun _ => ?_) fun _ => ?_
        refine rF_use hsame ?_
        rintro _ H4 ⟨rfl, T4, rfl⟩
        have gb : (H ++ T1 ++ [cs] ++ T2 ++ T3 ++ [cs] ++ T4)[(H ++ T1).length]? = some cs := by simp
        repeat' first | simp (disch := first | omega | assumption | decide) only [go_sem, hm, hz, ht, hr_, first_e, hpl, hcl, Nat.le_refl, if_true, htk11, gb, store_ptr, get_end_, get_old_, get_set_self_, get_set_ne_, len_set_, len_add_, bind_some_, map_some_, oneD_fold] | refine ifP_in (fun _ => ?_) fun _ => ?_
        refine rF_use hmw ?_
        rintro _ H5 ⟨rfl, T5, rfl⟩
        rw [hmb hlen]
        repeat' first | simp (disch := first | omega | assumption | decide) only [go_sem, hm, hz, ht, hr_, first_e, store_ptr, get_end_, get_old_, get_set_self_, get_set_ne_, len_set_, len_add_, bind_some_, map_some_, oneD_fold] | refine ifP_in (fun _ => ?_) fun _ => ?_
      · rw [hlong hlen]
        have ga : (H ++ T1 ++ [cs] ++ T2 ++ T3 ++ [hz0])[(H ++ T1).length]? = some cs := by simp
        repeat' first | simp (disch := first | omega | assumption | decide) only [go_sem, hm, hz, ht, hr_, first_e, ZH, storeH1, hpl, hpz, htkz, z0l, hcl, Nat.le_refl, if_true, htk11, ga, hg0, store_ptr, get_end_, get_old_, get_set_self_, get_set_ne_, len_set_, len_add_, bind_some_, map_some_, oneD_fold] | refine ifP_in (fun _ => ?_) fun _ => ?_
    · repeat' first | simp (disch := first | omega | assumption | decide) only [go_sem, hm, hz, ht, hr_, first_e, store_ptr, get_end_, get_old_, get_set_self_, get_set_ne_, len_set_, len_add_, bind_some_, map_some_, oneD_fold] | refine ifP_in (fun _ => ?_) fun _ => ?_
      refine rF_use (parse_w s _ (by omega)) ?_
      rintro _ H1 ⟨rfl, T1, rfl⟩
      rw [hf, he]
      repeat' first | simp (disch := first | omega | assumption | decide) only [go_sem, hm, hz, ht, hr_, first_e, ZH, storeH1, hpl, hcl, Nat.le_refl, if_true, htk11, store_ptr, get_end_, get_old_, get_set_self_, get_set_ne_, len_set_, len_add_, bind_some_, map_some_, oneD_fold] | refine ifP_in (fun _ => ?_) fun _ => ?_
      refine rF_use hpw ?_
      rintro _ H2 ⟨rfl, T2, rfl⟩
      repeat' first | simp (disch := first | omega | assumption | decide) only [go_sem, hm, hz, ht, hr_, first_e, store_ptr, get_end_, get_old_, get_set_self_, get_set_ne_, len_set_, len_add_, bind_some_, map_some_, oneD_fold] | refine ifP_in (fun _ => ?_) fun _ => ?_
      refine rF_use hq ?_
      rintro _ H3 ⟨rfl, T3, rfl⟩
      by_cases hlen : t.length ≤ 4000
      · rw [(hgood hlen).1]
        have ga : (H ++ T1 ++ [cs] ++ T2 ++ T3 ++ [cs])[(H ++ T1).length]? = some cs := by simp
        repeat' first | simp (disch := first | omega | assumption | decide) only [go_sem, hm, hz, ht, hr_, first_e, ZH, storeH1, hpl, hcl, Nat.le_refl, if_true, htk11, ga, hg0, store_ptr, get_end_, get_old_, get_set_self_, get_set_ne_, len_set_, len_add_, bind_some_, map_some_, oneD_fold] | refine ifP_in (fun _ => ?_) fun _ => ?_
        refine rF_use hsame ?_
        rintro _ H4 ⟨rfl, T4, rfl⟩
        have gb : (H ++ T1 ++ [cs] ++ T2 ++ T3 ++ [cs] ++ T4)[(H ++ T1).length]? = some cs := by simp
        repeat' first | simp (disch := first | omega | assumption | decide) only [go_sem, hm, hz, ht, hr_, first_e, hpl, hcl, Nat.le_refl, if_true, htk11, gb, store_ptr, get_end_, get_old_, get_set_self_, get_set_ne_, len_set_, len_add_, bind_some_, map_some_, oneD_fold] | refine ifP_in (fun _ => ?_) fun _ => ?_
        refine rF_use hmw ?_
        rintro _ H5 ⟨rfl, T5, rfl⟩
        rw [hmb hlen]
        repeat' first | simp (disch := first | omega | assumption | decide) only [go_sem, hm, hz, ht, hr_, first_e, store_ptr, get_end_, get_old_, get_set_self_, get_set_ne_, len_set_, len_add_, bind_some_, map_some_, oneD_fold] | refine ifP_in (fun _ => ?_) fun _ => ?_
      · rw [hlong hlen]
        have ga : (H ++ T1 ++ [cs] ++ T2 ++ T3 ++ [hz0])[(H ++ T1).length]? = some cs := by simp
        repeat' first | simp (disch := first | omega | assumption | decide) only [go_sem, hm, hz, ht, hr_, first_e, ZH, storeH1, hpl, hpz, htkz, z0l, hcl, Nat.le_refl, if_true, htk11, ga, hg0, store_ptr, get_end_, get_old_, get_set_self_, get_set_ne_, len_set_, len_add_, bind_some_, map_some_, oneD_fold] | refine ifP_in (fun _ => ?_) fun _ => ?_
    · repeat' first | simp (disch := first | omega | assumption | decide) only [go_sem, hm, hz, ht, hr_, first_e, store_ptr, get_end_, get_old_, get_set_self_, get_set_ne_, len_set_, len_add_, bind_some_, map_some_, oneD_fold] | refine ifP_in (fun _ => ?_) fun _ => ?_
      refine rF_use (parse_w s _ (by omega)) ?_
      rintro _ H1 ⟨rfl, T1, rfl⟩
      rw [hf, he]
      repeat' first | simp (disch := first | omega | assumption | decide) only [go_sem, hm, hz, ht, hr_, first_e, ZH, storeH1, hpl, hcl, Nat.le_refl, if_true, htk11, store_ptr, get_end_, get_old_, get_set_self_, get_set_ne_, len_set_, len_add_, bind_some_, map_some_, oneD_fold] | refine ifP_in (fun _ => ?_) fun _ => ?_
      refine rF_use hpw ?_
      rintro _ H2 ⟨rfl, T2, rfl⟩
      repeat' first | simp (disch := first | omega | assumption | decide) only [go_sem, hm, hz, ht, hr_, first_e, store_ptr, get_end_, get_old_, get_set_self_, get_set_ne_, len_set_, len_add_, bind_some_, map_some_, oneD_fold] | refine ifP_in (fun _ => ?_) fun _ => ?_
      refine rF_use hq ?_
      rintro _ H3 ⟨rfl, T3, rfl⟩
      by_cases hlen : t.length ≤ 4000
      · rw [(hgood hlen).1]
        have ga : (H ++ T1 ++ [cs] ++ T2 ++ T3 ++ [cs])[(H ++ T1).length]? = some cs := by simp
        repeat' first | simp (disch := first | omega | assumption | decide) only [go_sem, hm, hz, ht, hr_, first_e, ZH, storeH1, hpl, hcl, Nat.le_refl, if_true, htk11, ga, hg0, store_ptr, get_end_, get_old_, get_set_self_, get_set_ne_, len_set_, len_add_, bind_some_, map_some_, oneD_fold] | refine ifP_in (fun _ => ?_) fun _ => ?_
        refine rF_use hsame ?_
        rintro _ H4 ⟨rfl, T4, rfl⟩
        have gb : (H ++ T1 ++ [cs] ++ T2 ++ T3 ++ [cs] ++ T4)[(H ++ T1).length]? = some cs := by simp
        repeat' first | simp (disch := first | omega | assumption | decide) only [go_sem, hm, hz, ht, hr_, first_e, hpl, hcl, Nat.le_refl, if_true, htk11, gb, store_ptr, get_end_, get_old_, get_set_self_, get_set_ne_, len_set_, len_add_, bind_some_, map_some_, oneD_fold] | refine ifP_in (fun _ => ?_) fun _ => ?_
        refine rF_use hmw ?_
        rintro _ H5 ⟨rfl, T5, rfl⟩
        rw [hmb hlen]
        repeat' first | simp (disch := first | omega | assumption | decide) only [go_sem, hm, hz, ht, hr_, first_e, store_ptr, get_end_, get_old_, get_set_self_, get_set_ne_, len_set_, len_add_, bind_some_, map_some_, oneD_fold] | refine ifP_in (fun _ => ?_) fun _ => ?_
      · rw [hlong hlen]
        have ga : (H ++ T1 ++ [cs] ++ T2 ++ T3 ++ [hz0])[(H ++ T1).length]? = some cs := by simp
        repeat' first | simp (disch := first | omega | assumption | decide) only [go_sem, hm, hz, ht, hr_, first_e, ZH, storeH1, hpl, hpz, htkz, z0l, hcl, Nat.le_refl, if_true, htk11, ga, hg0, store_ptr, get_end_, get_old_, get_set_self_, get_set_ne_, len_set_, len_add_, bind_some_, map_some_, oneD_fold] | refine ifP_in (fun _ => ?_) fun _ => ?_
    · repeat' first | simp (disch := first | omega | assumption | decide) only [go_sem, hm, hz, ht, hr_, first_e, store_ptr, get_end_, get_old_, get_set_self_, get_set_ne_, len_set_, len_add_, bind_some_, map_some_, oneD_fold] | refine ifP_in (fun _ => ?_) fun _ => ?_
      refine rF_use (parse_w s _ (by omega)) ?_
      rintro _ H1 ⟨rfl, T1, rfl⟩
      rw [hf, he]
      repeat' first | simp (disch := first | omega | assumption | decide) only [go_sem, hm, hz, ht, hr_, first_e, ZH, storeH1, hpl, hcl, Nat.le_refl, if_true, htk11, store_ptr, get_end_, get_old_, get_set_self_, get_set_ne_, len_set_, len_add_, bind_some_, map_some_, oneD_fold] | refine ifP_in (fun _ => ?_) fun _ => ?_
      refine rF_use hpw ?_
      rintro _ H2 ⟨rfl, T2, rfl⟩
      repeat' first | simp (disch := first | omega | assumption | decide) only [go_sem, hm, hz, ht, hr_, first_e, store_ptr, get_end_, get_old_, get_set_self_, get_set_ne_, len_set_, len_add_, bind_some_, map_some_, oneD_fold] | refine ifP_in (fun _ => ?_) fun _ => ?_
      refine rF_use hq ?_
      rintro _ H3 ⟨rfl, T3, rfl⟩
      by_cases hlen : t.length ≤ 4000
      · rw [(hgood hlen).1]
        have ga : (H ++ T1 ++ [cs] ++ T2 ++ T3 ++ [cs])[(H ++ T1).length]? = some cs := by simp
        repeat' first | simp (disch := first | omega | assumption | decide) only [go_sem, hm, hz, ht, hr_, first_e, ZH, storeH1, hpl, hcl, Nat.le_refl, if_true, htk11, ga, hg0, store_ptr, get_end_, get_old_, get_set_self_, get_set_ne_, len_set_, len_add_, bind_some_, map_some_, oneD_fold] | refine ifP_in (fun _ => ?_) fun _ => ?_
        refine rF_use hsame ?_
        rintro _ H4 ⟨rfl, T4, rfl⟩
        have gb : (H ++ T1 ++ [cs] ++ T2 ++ T3 ++ [cs] ++ T4)[(H ++ T1).length]? = some cs := by simp
        repeat' first | simp (disch := first | omega | assumption | decide) only [go_sem, hm, hz, ht, hr_, first_e, hpl, hcl, Nat.le_refl, if_true, htk11, gb, store_ptr, get_end_, get_old_, get_set_self_, get_set_ne_, len_set_, len_add_, bind_some_, map_some_, oneD_fold] | refine ifP_in (fun _ => ?_) fun _ => ?_
        refine rF_use hmw ?_
        rintro _ H5 ⟨rfl, T5, rfl⟩
        rw [hmb hlen]
        repeat' first | simp (disch := first | omega | assumption | decide) only [go_sem, hm, hz, ht, hr_, first_e, store_ptr, get_end_, get_old_, get_set_self_, get_set_ne_, len_set_, len_add_, bind_some_, map_some_, oneD_fold] | refine ifP_in (fun _ => ?_) fun _ => ?_
      · rw [hlong hlen]
        have ga : (H ++ T1 ++ [cs] ++ T2 ++ T3 ++ [hz0])[(H ++ T1).length]? = some cs := by simp
        repeat' first | simp (disch := first | omega | assumption | decide) only [go_sem, hm, hz, ht, hr_, first_e, ZH, storeH1, hpl, hpz, htkz, z0l, hcl, Nat.le_refl, if_true, htk11, ga, hg0, store_ptr, get_end_, get_old_, get_set_self_, get_set_ne_, len_set_, len_add_, bind_some_, map_some_, oneD_fold] | refine ifP_in (fun _ => ?_) fun _ => ?_
    · repeat' first | simp (disch := first | omega | assumption | decide) only [go_sem, hm, hz, ht, hr_, first_e, store_ptr, get_end_, get_old_, get_set_self_, get_set_ne_, len_set_, len_add_, bind_some_, map_some_, oneD_fold] | refine ifP_in (fun _ => ?_) fun _ => ?_
      refine rF_use (parse_w s _ (by omega)) ?_
      rintro _ H1 ⟨rfl, T1, rfl⟩
      rw [hf, he]
      repeat' first | simp (disch := first | omega | assumption | decide) only [go_sem, hm, hz, ht, hr_, first_e, ZH, storeH1, hpl, hcl, Nat.le_refl, if_true, htk11, store_ptr, get_end_, get_old_, get_set_self_, get_set_ne_, len_set_, len_add_, bind_some_, map_some_, oneD_fold] | refine ifP_in (fun _ => ?_) fun _ => ?_
      refine rF_use hpw ?_
      rintro _ H2 ⟨rfl, T2, rfl⟩
      repeat' first | simp (disch := first | omega | assumption | decide) only [go_sem, hm, hz, ht, hr_, first_e, store_ptr, get_end_, get_old_, get_set_self_, get_set_ne_, len_set_, len_add_, bind_some_, map_some_, oneD_fold] | refine ifP_in (fun _ => ?_) fun _ => ?_
      refine rF_use hq ?_
      rintro _ H3 ⟨rfl, T3, rfl⟩
      by_cases hlen : t.length ≤ 4000
      · rw [(hgood hlen).1]
        have ga : (H ++ T1 ++ [cs] ++ T2 ++ T3 ++ [cs])[(H ++ T1).length]? = some cs := by simp
        repeat' first | simp (disch := first | omega | assumption | decide) only [go_sem, hm, hz, ht, hr_, first_e, ZH, storeH1, hpl, hcl, Nat.le_refl, if_true, htk11, ga, hg0, store_ptr, get_end_, get_old_, get_set_self_, get_set_ne_, len_set_, len_add_, bind_some_, map_some_, oneD_fold] | refine ifP_in (fun _ => ?_) fun _ => ?_
        refine rF_use hsame ?_
        rintro _ H4 ⟨rfl, T4, rfl⟩
        have gb : (H ++ T1 ++ [cs] ++ T2 ++ T3 ++ [cs] ++ T4)[(H ++ T1).length]? = some cs := by simp
        repeat' first | simp (disch := first | omega | assumption | decide) only [go_sem, hm, hz, ht, hr_, first_e, hpl, hcl, Nat.le_refl, if_true, htk11, gb, store_ptr, get_end_, get_old_, get_set_self_, get_set_ne_, len_set_, len_add_, bind_some_, map_some_, oneD_fold] | refine ifP_in (fun _ => ?_) fun _ => ?_
        refine rF_use hmw ?_
        rintro _ H5 ⟨rfl, T5, rfl⟩
        rw [hmb hlen]
        repeat' first | simp (disch := first | omega | assumption | decide) only [go_sem, hm, hz, ht, hr_, first_e, store_ptr, get_end_, get_old_, get_set_self_, get_set_ne_, len_set_, len_add_, bind_some_, map_some_, oneD_fold] | refine ifP_in (fun _ => ?_) fun _ => ?_
      · rw [hlong hlen]
        have ga : (H ++ T1 ++ [cs] ++ T2 ++ T3 ++ [hz0])[(H ++ T1).length]? = some cs := by simp
        repeat' first | simp (disch := first | omega | assumption | decide) only [go_sem, hm, hz, ht, hr_, first_e, ZH, storeH1, hpl, hpz, htkz, z0l, hcl, Nat.le_refl, if_true, htk11, ga, hg0, store_ptr, get_end_, get_old_, get_set_self_, get_set_ne_, len_set_, len_add_, bind_some_, map_some_, oneD_fold] | refine ifP_in (fun _ => ?_) fun _ => ?_
    · repeat' first | simp (disch := first | omega | assumption | decide) only [go_sem, hm, hz, ht, hr_, first_e, store_ptr, get_end_, get_old_, get_set_self_, get_set_ne_, len_set_, len_add_, bind_some_, map_some_, oneD_fold] | refine ifP_in (fun _ => ?_) fun _ => ?_
      refine rF_use (parse_w s _ (by omega)) ?_
      rintro _ H1 ⟨rfl, T1, rfl⟩
      rw [hf, he]
      repeat' first | simp (disch := first | omega | assumption | decide) only [go_sem, hm, hz, ht, hr_, first_e, ZH, storeH1, hpl, hcl, Nat.le_refl, if_true, htk11, store_ptr, get_end_, get_old_, get_set_self_, get_set_ne_, len_set_, len_add_, bind_some_, map_some_, oneD_fold] | refine ifP_in (fun _ => ?_) fun _ => ?_
      refine rF_use hpw ?_
      rintro _ H2 ⟨rfl, T2, rfl⟩
      repeat' first | simp (disch := first | omega | assumption | decide) only [go_sem, hm, hz, ht, hr_, first_e, store_ptr, get_end_, get_old_, get_set_self_, get_set_ne_, len_set_, len_add_, bind_some_, map_some_, oneD_fold] | refine ifP_in (fun _ => ?_) fun _ => ?_
      refine rF_use hq ?_
      rintro _ H3 ⟨rfl, T3, rfl⟩
      by_cases hlen : t.length ≤ 4000
      · rw [(hgood hlen).1]
        have ga : (H ++ T1 ++ [cs] ++ T2 ++ T3 ++ [cs])[(H ++ T1).length]? = some cs := by simp
        repeat' first | simp (disch := first | omega | assumption | decide) only [go_sem, hm, hz, ht, hr_, first_e, ZH, storeH1, hpl, hcl, Nat.le_refl, if_true, htk11, ga, hg0, store_ptr, get_end_, get_old_, get_set_self_, get_set_ne_, len_set_, len_add_, bind_some_, map_some_, oneD_fold] | refine ifP_in (fun _ => ?_) fun _ => ?_
        refine rF_use hsame ?_
        rintro _ H4 ⟨rfl, T4, rfl⟩
        have gb : (H ++ T1 ++ [cs] ++ T2 ++ T3 ++ [cs] ++ T4)[(H ++ T1).length]? = some cs := by simp
        repeat' first | simp (disch := first | omega | assumption | decide) only [go_sem, hm, hz, ht, hr_, first_e, hpl, hcl, Nat.le_refl, if_true, htk11, gb, store_ptr, get_end_, get_old_, get_set_self_, get_set_ne_, len_set_, len_add_, bind_some_, map_some_, oneD_fold] | refine ifP_in (fun _ => ?_) fun _ => ?_
        refine rF_use hmw ?_
        rintro _ H5 ⟨rfl, T5, rfl⟩
        rw [hmb hlen]
        repeat' first | simp (disch := first | omega | assumption | decide) only [go_sem, hm, hz, ht, hr_, first_e, store_ptr, get_end_, get_old_, get_set_self_, get_set_ne_, len_set_, len_add_, bind_some_, map_some_, oneD_fold] | refine ifP_in (fun _ => ?_) fun _ => ?_
      · rw [hlong hlen]
        have ga : (H ++ T1 ++ [cs] ++ T2 ++ T3 ++ [hz0])[(H ++ T1).length]? = some cs := by simp
        repeat' first | simp (disch := first | omega | assumption | decide) only [go_sem, hm, hz, ht, hr_, first_e, ZH, storeH1, hpl, hpz, htkz, z0l, hcl, Nat.le_refl, if_true, htk11, ga, hg0, store_ptr, get_end_, get_old_, get_set_self_, get_set_ne_, len_set_, len_add_, bind_some_, map_some_, oneD_fold] | refine ifP_in (fun _ => ?_) fun _ => ?_
  · have hpz : ∀ {x : Option AV}, plainD hz0 x = x := fun {x} => by
      unfold plainD
      rw [if_pos (plainRow_one z0o)]
    have htkz : hz0.take 11 = hz0 := rfl
    have hne : ((prs s sp).2 = 0) = False := eq_false he
    repeat' first | simp (disch := first | omega | assumption | decide) only [go_sem, hm, hz, ht, hr_, first_e, store_ptr, get_end_, get_old_, get_set_self_, get_set_ne_, len_set_, len_add_, bind_some_, map_some_, oneD_fold] | refine ifP_in (fun _ => ?_) fun _ => ?_
    refine rF_use (parse_w s _ (by omega)) ?_
    rintro _ H1 ⟨rfl, T1, rfl⟩
    rw [b1 he]
    generalize (prs s sp).2 = er at *
    repeat' first | simp (disch := first | omega | assumption | decide) only [go_sem, hm, hz, ht, hr_, first_e, ZH, storeH1, hpz, htkz, z0l, Nat.le_refl, if_true, hne, store_ptr, get_end_, get_old_, get_set_self_, get_set_ne_, len_set_, len_add_, bind_some_, map_some_, oneD_fold] | refine ifP_in (fun _ => ?_) fun _ => ?_
    refine rF_use (same_r 0 [] 0 (Ho.zeros 8) rfl) ?_
    rintro _ H4 ⟨rfl, T4, rfl⟩
    repeat' first | simp (disch := first | omega | assumption | decide) only [go_sem, hm, hz, ht, hr_, first_e, store_ptr, get_end_, get_old_, get_set_self_, get_set_ne_, len_set_, len_add_, bind_some_, map_some_, oneD_fold] | refine ifP_in (fun _ => ?_) fun _ => ?_
end Hs
end Go.Proofs
