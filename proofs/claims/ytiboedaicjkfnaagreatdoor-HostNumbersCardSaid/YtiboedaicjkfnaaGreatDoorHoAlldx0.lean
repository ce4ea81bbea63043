/- The plain law of hosts: what is read is printed, and read as the same. -/
import Derived.Test.YtiboedaicjkfnaaGreatDoorHoAllcx0
import Derived.Test.YtiboedaicjkfnaaGreatDoorIdStay
set_option linter.unusedVariables false
set_option linter.unusedSimpArgs false
namespace Go.Proofs
open Go.Lv
namespace Hs
theorem dec_id : ∀ {s : List UInt8}, (∀ c ∈ s, c ≠ 37) → Ho.dec s = s := by
  intro s
  induction s with
  | nil => intro _; exact Ho.dec_nil
  | cons c r ih =>
    intro h
    rw [Ho.dec, if_neg (fun hc => h c (by simp) hc.1), ih fun x hx => h x (by simp [hx])]
theorem lossy_ints : ∀ {s : List UInt8}, (∀ c ∈ s, c.toNat < 128) → Ho.lossy s = Puny.ints s := by
  intro s
  induction s with
  | nil => intro _; rw [Ho.lossy_nil]; rfl
  | cons c r ih =>
    intro h
    have hc := h c (by simp)
    have hn : Ho.nx (c :: r) = ((c.toNat : Int), 1) := by
      unfold Ho.nx
      simp only [List.getD_cons_zero]
      have hl : Ho.lead (c.toNat : Int) = (0, 0, 0) := by unfold Ho.lead; rw [if_pos (by omega)]
      rw [hl]
      rfl
    rw [Ho.lossy_cons (by simp), hn]
    simp only [List.drop_succ_cons, List.drop_zero]
    rw [ih fun x hx => h x (by simp [hx])]
    rfl
theorem asc_ints (s : List UInt8) : Utf.asc (Puny.ints s) = s := by
  induction s with
  | nil => rfl
  | cons c r ih =>
    show UInt8.ofNat ((c.toNat : Int)).toNat :: Utf.asc (Puny.ints r) = _
    rw [ih]; simp
theorem plain_ints {s : List UInt8} (h : ∀ c ∈ s, c.toNat < 128) : Id.plain (Puny.ints s) = true := by
  refine List.all_eq_true.2 fun c hc => ?_
  obtain ⟨x, hx, rfl⟩ := List.mem_map.1 hc
  have := h x hx
  simp [Id.high]; omega
theorem ascii_same {s : List UInt8} (h : ∀ c ∈ s, Id.stays c) (hx : ∀ x ∈ Sp.split 46 s, x.take 4 ≠ Id.XNb) (hl : s.length ≤ 253) : Id.toASCII (Puny.ints s) = (s, 0) := by
  have hm : ∀ x ∈ Sp.split 46 s, ∀ c ∈ x, c ∈ s := fun x hx c hc => by
    rw [← Sp.join_split (c := (46 : UInt8)) s]
    exact Sp.mem_join_of hx hc
  have hlab : ∀ x ∈ Sp.split 46 s, Id.label (Puny.ints x) = (x, 0) := by
    intro x hxx
    have hp : Id.plain (Puny.ints x) = true := plain_ints fun c hc => (h c (hm x hxx c hc)).1
    have hk : Id.marked (Puny.ints x) = false := by
      refine decide_eq_false fun he => hx x hxx ?_
      have := (Id.marked_asc hp).2 he
      rwa [asc_ints] at this
    unfold Id.label
    rw [hp, hk, asc_ints]; rfl
  have hj : Puny.ints s = Sp.join [46] ((Sp.split 46 s).map Puny.ints) := by
    rw [← Id.ints_join, Sp.join_split]
  have hmm : ((Sp.split 46 s).map Puny.ints).map (fun y => (Id.label y).1) = Sp.split 46 s := by
    rw [List.map_map]
    refine (List.map_congr_left (g := id) fun x hxx => ?_).trans (by simp)
    show (Id.label (Puny.ints x)).1 = x
    rw [hlab x hxx]
  have := Id.ascii_of (ys := (Sp.split 46 s).map Puny.ints) (by simp [Sp.split_ne]) ?_ ?_ (by rw [← hj]; simp [Puny.ints]; omega) (by rw [hmm, Sp.join_split]; exact hl)
  · rw [hj, this, hmm, Sp.join_split]
  · intro y hy c hc
    obtain ⟨x, hxx, rfl⟩ := List.mem_map.1 hy
    obtain ⟨b, hb, rfl⟩ := List.mem_map.1 hc
    refine ⟨Id.stays_kind (h b (hm x hxx b hb)), fun e => ?_⟩
    have : b = 46 := UInt8.toNat.inj (by simpa using (by omega : b.toNat = 46))
    exact Sp.split_parts (c := (46 : UInt8)) s x hxx (this ▸ hb)
  · intro y hy
    obtain ⟨x, hxx, rfl⟩ := List.mem_map.1 hy
    rw [hlab x hxx]
/-- Letters, digits and points. -/
def calm (c : UInt8) : Prop := c = 46 ∨ (48 ≤ c.toNat ∧ c.toNat ≤ 57) ∨ (97 ≤ c.toNat ∧ c.toNat ≤ 102)
theorem calm_ok {c : UInt8} (h : calm c) : Id.stays c ∧ c ≠ 37 ∧ c ∉ BAD ∧ ¬ (c.toNat < 32 ∨ c.toNat = 37 ∨ c.toNat = 127) ∧ c ≠ 120 := by
  have key : ∀ k : Fin 256, (k.val = 46 ∨ (48 ≤ k.val ∧ k.val ≤ 57) ∨ (97 ≤ k.val ∧ k.val ≤ 102)) → UInt8.ofNat k.val ∉ BAD ∧ UInt8.ofNat k.val ≠ 37 ∧ UInt8.ofNat k.val ≠ 120 := by decide +kernel
  have hk := key ⟨c.toNat, c.toNat_lt⟩ (by rcases h with rfl | h | h; exact .inl rfl; exact .inr (.inl h); exact .inr (.inr h))
  simp only [UInt8.ofNat_toNat] at hk
  have hn : 46 ≤ c.toNat ∧ c.toNat ≤ 102 ∧ (c.toNat ≤ 57 ∨ 97 ≤ c.toNat) := by rcases h with rfl | h | h; exact ⟨by decide, by decide, by decide⟩; omega; omega
  exact ⟨⟨by omega, by omega⟩, hk.2.1, hk.1, by omega, hk.2.2⟩
theorem bad_no {s : List UInt8} (h : ∀ c ∈ s, c ∉ BAD) : bad s = false := by
  cases hb : bad s with
  | false => rfl
  | true => obtain ⟨c, hc, hd⟩ := List.any_eq_true.1 hb; exact absurd (of_decide_eq_true hd) (h c hc)
theorem lows_no {s : List UInt8} (h : ∀ c ∈ s, ¬ (c.toNat < 32 ∨ c.toNat = 37 ∨ c.toNat = 127)) : lows s = false := by
  cases hb : lows s with
  | false => rfl
  | true => obtain ⟨c, hc, hd⟩ := List.any_eq_true.1 hb; exact absurd (of_decide_eq_true hd) (h c hc)
/-- A name whose signs stay as they are. -/
theorem dom_same {s : List UInt8} (h7 : ∀ c ∈ s, c ≠ 37) (ha : ∀ c ∈ s, c.toNat < 128) (ht : Id.toASCII (Puny.ints s) = (s, 0)) (h0 : s ≠ []) (hb : bad s = false) (hl : lows s = false) :
    dom s = if Ho.ends s = false then (hcells 1 s 0 (Ho.zeros 8), 0) else if (Ho.p4 8589934592 s).2 ≠ 0 then (hz0, (Ho.p4 8589934592 s).2) else (hcells 2 [] (IntKind.u32.wrap (Ho.p4 8589934592 s).1) (Ho.zeros 8), 0) := by
  unfold dom
  rw [dec_id h7, lossy_ints ha, ht]
  simp only
  rw [if_neg (by simp), if_neg h0, if_neg (by rw [hb, hl]; simp)]
theorem dom_calm {s : List UInt8} (h : ∀ c ∈ s, calm c) (h0 : s ≠ []) (hlen : s.length ≤ 253) :
    dom s = if Ho.ends s = false then (hcells 1 s 0 (Ho.zeros 8), 0) else if (Ho.p4 8589934592 s).2 ≠ 0 then (hz0, (Ho.p4 8589934592 s).2) else (hcells 2 [] (IntKind.u32.wrap (Ho.p4 8589934592 s).1) (Ho.zeros 8), 0) := by
  refine dom_same (fun c hc => (calm_ok (h c hc)).2.1) (fun c hc => (calm_ok (h c hc)).1.1) (ascii_same (fun c hc => (calm_ok (h c hc)).1) ?_ hlen) h0 (bad_no fun c hc => (calm_ok (h c hc)).2.2.1) (lows_no fun c hc => (calm_ok (h c hc)).2.2.2.1)
  intro x hx he
  have hm : (120 : UInt8) ∈ x := List.mem_of_mem_take (by rw [he]; simp [Id.XNb])
  have hs : (120 : UInt8) ∈ s := by
    rw [← Sp.join_split (c := (46 : UInt8)) s]
    exact Sp.mem_join_of hx hm
  exact (calm_ok (h _ hs)).2.2.2.2 rfl
theorem pr4_calm {v : Int} (h0 : 0 ≤ v) (h1 : v < 4294967296) : ∀ c ∈ Ho.pr4 v, calm c := fun c hc => by
  rcases Ho.pr4_chars h0 h1 c hc with h | h
  · exact .inl h
  · exact .inr (.inl h)
theorem pr4_ne {v : Int} (h0 : 0 ≤ v) (h1 : v < 4294967296) : Ho.pr4 v ≠ [] := by
  intro e
  have := Ho.pr4_split h0 h1
  rw [e] at this
  simp [Ho.q4, Sp.split] at this
theorem wrap32 {v : Int} (h0 : 0 ≤ v) (h1 : v < 4294967296) : IntKind.u32.wrap v = v := by
  unfold IntKind.wrap
  simp [IntKind.bits, IntKind.signed]
  omega
theorem dom_pr4 {v : Int} (h0 : 0 ≤ v) (h1 : v < 4294967296) : dom (Ho.pr4 v) = (hcells 2 [] v (Ho.zeros 8), 0) := by
  rw [dom_calm (pr4_calm h0 h1) (pr4_ne h0 h1) (by have := Ho.pr4_len v; omega), Ho.pr4_ends h0 h1, if_neg (by simp), Ho.p4_pr4 (by omega) h0 h1, if_neg (by simp), wrap32 h0 h1]
theorem take1_no {s : List UInt8} (h : (91 : UInt8) ∉ s) : s.take 1 ≠ [91] := fun e => h (List.mem_of_mem_take (i := 1) (by rw [e]; simp))
theorem prs_pr4 {v : Int} (h0 : 0 ≤ v) (h1 : v < 4294967296) : prs (Ho.pr4 v) true = (hcells 2 [] v (Ho.zeros 8), 0) := by
  have hl := Ho.pr4_len v
  unfold prs
  rw [if_neg (by omega), if_neg (take1_no fun hm => (calm_ok (pr4_calm h0 h1 _ hm)).2.2.1 (by simp [BAD])), if_pos rfl, dom_pr4 h0 h1]
theorem prs_pr6 {l : List Int} (h8 : l.length = 8) (h : Ho.u16s l) (sp : Bool) : prs ([91] ++ Ho.pr6 l ++ [93]) sp = (hcells 3 [] 0 l, 0) := by
  have hl := Ho.pr6_len l
  unfold prs
  rw [if_neg (by simp; omega), if_pos (by simp)]
  unfold brk
  have e1 : ([91] ++ Ho.pr6 l ++ [93]).length = (Ho.pr6 l).length + 2 := by simp
  have e2 : (([91] ++ Ho.pr6 l ++ [93]).take ((Ho.pr6 l).length + 2 - 1)).drop 1 = Ho.pr6 l := by simp
  rw [e1, if_neg, e2, Ho.p6_pr6 h8 h, if_neg (by simp)]
  simp only [List.getD_eq_getElem?_getD]
  rw [List.getElem?_append_right (by simp)]
  simp
theorem pr6_last {l : List Int} (h : Ho.u16s l) : ∀ c ∈ Ho.pr6 l, c ≠ 93 := by
  have k : ∀ m : List Int, Ho.u16s m → ∀ c ∈ Ho.tx6 m, c ≠ 93 := fun m hm c hc e => by
    subst e
    have := Ho.tx6_chars hm _ hc
    revert this; decide
  intro c hc
  unfold Ho.pr6 at hc
  split at hc
  · exact k l h c hc
  · rcases List.mem_append.1 hc with hc | hc
    · rcases List.mem_append.1 hc with hc | hc
      · exact k _ (Ho.u16s_take h _) c hc
      · intro e; subst e; revert hc; decide
    · exact k _ (Ho.u16s_drop h _) c hc
theorem prs_open {l : List Int} (h8 : l.length = 8) (h : Ho.u16s l) (sp : Bool) : prs ([91] ++ Ho.pr6 l) sp = (hz0, 4) := by
  have hl := Ho.pr6_len l
  unfold prs
  rw [if_neg (by simp; omega), if_pos (by simp)]
  unfold brk
  rw [if_pos]
  by_cases h2 : ([91] ++ Ho.pr6 l).length < 2
  · exact .inl h2
  · refine .inr ?_
    have hp : 0 < (Ho.pr6 l).length := by simp at h2; omega
    rw [List.getD_eq_getElem?_getD, List.getElem?_append_right (by simp; omega)]
    rw [List.getElem?_eq_getElem (by simp; omega), Option.getD_some]
    exact pr6_last h _ (List.getElem_mem _)
theorem prs_dots {v : Int} (h0 : 0 ≤ v) (h1 : v < 4294967296) : prs ([97, 46] ++ Ho.pr4 v ++ [46, 48]) true = (hz0, 4) := by
  have hl := Ho.pr4_len v
  have hc : ∀ c ∈ ([97, 46] ++ Ho.pr4 v ++ [46, 48] : List UInt8), calm c := by
    intro c hc
    simp only [List.mem_append, List.mem_cons, List.not_mem_nil, or_false] at hc
    rcases hc with ((rfl | rfl) | hc) | rfl | rfl
    · exact .inr (.inr (by decide))
    · exact .inl rfl
    · exact pr4_calm h0 h1 c hc
    · exact .inl rfl
    · exact .inr (.inl (by decide))
  have hs : Sp.split 46 ([97, 46] ++ Ho.pr4 v ++ [46, 48] : List UInt8) = [97] :: ((Ho.q4 v).map Ho.d3 ++ [([48] : List UInt8)]) := by
    have e : ([97, 46] ++ Ho.pr4 v ++ [46, 48] : List UInt8) = Sp.join [46] ([97] :: ((Ho.q4 v).map Ho.d3 ++ [([48] : List UInt8)])) := by
      simp [Ho.pr4, Ho.q4, Sp.join]
    rw [e]
    refine Sp.split_join (by simp) ?_
    intro x hx
    simp only [List.mem_cons, List.mem_append, List.not_mem_nil, or_false] at hx
    rcases hx with rfl | hx | rfl
    · decide
    · obtain ⟨y, hy, rfl⟩ := List.mem_map.1 hx
      have hb := Ho.q4_bnd h0 h1 y hy
      exact Ho.no46 (Ho.d3_ok hb.1 hb.2).2.2
    · decide
  have hp : Ho.parts ([97, 46] ++ Ho.pr4 v ++ [46, 48] : List UInt8) = [97] :: ((Ho.q4 v).map Ho.d3 ++ [([48] : List UInt8)]) := by
    unfold Ho.parts
    rw [hs, if_neg]
    simp [Ho.q4]
  have he : Ho.ends ([97, 46] ++ Ho.pr4 v ++ [46, 48] : List UInt8) = true := by
    have hlp : Ho.lastp ([97, 46] ++ Ho.pr4 v ++ [46, 48] : List UInt8) = [48] := by unfold Ho.lastp; rw [hp]; simp [Ho.q4]
    unfold Ho.ends
    rw [hlp]; decide
  unfold prs
  rw [if_neg (by simp; omega), if_neg (take1_no fun hm => (calm_ok (hc _ hm)).2.2.1 (by simp [BAD])), if_pos rfl, dom_calm hc (by simp) (by simp; omega), he, if_neg (by simp)]
  have hp4 : Ho.p4 8589934592 ([97, 46] ++ Ho.pr4 v ++ [46, 48] : List UInt8) = (0, 4) := by
    unfold Ho.p4
    rw [if_neg (by simp; omega), hp, if_pos (by simp [Ho.q4])]
  rw [hp4]; rfl
end Hs
end Go.Proofs
/- Walks: eight pieces as a text, the program's side. -/
set_option linter.unusedVariables false
set_option linter.unusedSimpArgs false
namespace Go.Proofs
open Go.Lv
namespace Hs
open Pu Ut Utf In
variable {H : Heap}
theorem zeros_w (l : List Int) (hl : l.length = 8) (hu : Ho.u16s l) : WF Tryz.prog cfg 24 [.agg (l.map uA)] H (fun r H' => r = .tup [.i (Ho.zr l).1, .i (Ho.zr l).2] ∧ H <+: H') := by
  have hm : ∀ d, cfg.muF 24 d = (false) := fun _ => rfl
  have hz : ∀ d, cfg.fzF 24 d = (false) := fun _ => rfl
  have ht : ∀ d, cfg.tkF 24 d = (false) := fun _ => rfl
  have hr_ : ∀ g, cfg.raw g = (g == 152 || g == 118) := fun _ => rfl
  refine rF_fn rfl rfl Tryz.func24 rfl ?_
  have ho := one_u (vs := l)
  have hpl : ∀ {x : Option AV}, plainD (l.map uA) x = x := fun {x} => by
    unfold plainD
    rw [if_pos (plainRow_one ho)]
  have hml : (l.map uA).length = 8 := by simp [hl]
  have htk : (l.map uA).take 8 = l.map uA := List.take_of_length_le (by omega)
  repeat' first | simp (disch := first | omega | assumption | decide) only [go_sem, hm, hz, ht, hr_, ho, hpl, hml, htk, Nat.le_refl, if_true, store_ptr, get_end_, get_old_, get_set_self_, get_set_ne_, len_set_, len_add_, bind_some_, map_some_, oneD_fold] | refine ifP_in (fun _ => ?_) fun _ => ?_
  refine rL_loop (σ := Nat) (fun i e K => K = H ++ [l.map uA] ∧ e 9 = .agg (l.map uA) ∧ e 10 = .i i ∧ e 4 = .i (Ho.zf (l.take i)).1 ∧ e 5 = .i (Ho.zf (l.take i)).2.1 ∧ e 6 = .i (Ho.zf (l.take i)).2.2.1 ∧ i ≤ 8) (fun i => 8 - i) 0 ?_ ?_
  · refine ⟨rfl, ?_, ?_, ?_, ?_, ?_, by omega⟩
    all_goals first | (simp (disch := first | assumption | omega) only [go_sem]; done) | (simp (disch := first | assumption | omega) only [go_sem]; rfl)
  · rintro i e K ⟨rfl, g9, g10, g4, g5, g6, i1⟩
    by_cases hi : i < 8
    · have hil : i < l.length := by omega
      have hst := Ho.zf_take hil
      obtain ⟨k1, k2, k3, k4, k5, k6, k7, k8⟩ := Ho.zf_inv l i (by omega)
      have hlen : (l.take i).length = i := by simp; omega
      rw [hlen] at k1 k3 k7
      have hx := hu _ (List.getElem_mem hil)
      have hpi : ∀ {s : Option Nat}, partD (some false) s (l.map uA) i = some (uA l[i]) := fun {s} => by rw [partD_map, List.getElem?_eq_getElem hil]; rfl
      generalize l[i] = x at *
      generalize Ho.zf (l.take i) = s at *
      obtain ⟨a, m, n, q⟩ := s
      simp only at g4 g5 g6 k1 k2 k3 k5 k6 k7
      subst k1
      have hn1 : (n : Int) + 1 < 100 := by omega
      by_cases hx0 : x = 0
      · have hst2 : Ho.zstep x (a, m, n, (i : Int)) = if m < n + 1 then ((i : Int) + 1 - (n + 1), n + 1, n + 1, (i : Int) + 1) else (a, m, n + 1, (i : Int) + 1) := by unfold Ho.zstep; simp only [hx0, if_true]
        rw [hst2] at hst
        subst hx0
        repeat' first | simp (disch := first | omega | assumption | decide) only [go_sem, hm, hz, ht, hr_, g9, g10, g4, g5, g6, hpi, store_ptr, get_end_, get_old_, get_set_self_, get_set_ne_, len_set_, len_add_, bind_some_, map_some_, oneD_fold] | refine ifP_in (fun _ => ?_) fun _ => ?_
        · rw [if_pos (by omega)] at hst
          exact ⟨i + 1, ⟨rfl, by rw [hst], by rw [hst], by rw [hst], by omega⟩, by omega⟩
        · rw [if_neg (by omega)] at hst
          exact ⟨i + 1, ⟨rfl, by rw [hst], by rw [hst], by rw [hst], by omega⟩, by omega⟩
      · have hst2 : Ho.zstep x (a, m, n, (i : Int)) = (a, m, 0, (i : Int) + 1) := by unfold Ho.zstep; simp only [hx0, if_false]; rw [if_neg (by omega)]
        rw [hst2] at hst
        repeat' first | simp (disch := first | omega | assumption | decide) only [go_sem, hm, hz, ht, hr_, g9, g10, g4, g5, g6, hpi, store_ptr, get_end_, get_old_, get_set_self_, get_set_ne_, len_set_, len_add_, bind_some_, map_some_, oneD_fold] | refine ifP_in (fun _ => ?_) fun _ => ?_
        exact ⟨i + 1, ⟨rfl, by rw [hst], by rw [hst], by rw [hst], by omega⟩, by omega⟩
    · obtain rfl : i = 8 := by omega
      have h8 : l.take 8 = l := List.take_of_length_le (by omega)
      rw [h8] at g4 g5 g6
      repeat' first | simp (disch := first | omega | assumption | decide) only [go_sem, hm, hz, ht, hr_, g9, g10, g4, g5, g6, store_ptr, get_end_, get_old_, get_set_self_, get_set_ne_, len_set_, len_add_, bind_some_, map_some_, oneD_fold] | refine ifP_in (fun _ => ?_) fun _ => ?_
      exact ⟨by rw [Ho.zr_zf], List.prefix_append _ _⟩
theorem text_w (l : List Int) (hu : Ho.u16s l) (j off len : Nat) (hj : H[j]? = some (l.map uA)) (ho : off + len ≤ l.length) (hl8 : l.length ≤ 8) : WF Tryz.prog cfg 25 [.mr j off len 1 false] H (fun r H' => r = .str (Ho.tx6 ((l.drop off).take len)) ∧ H <+: H') := by
  have hm : ∀ d, cfg.muF 25 d = (false) := fun _ => rfl
  have hz : ∀ d, cfg.fzF 25 d = (false) := fun _ => rfl
  have ht : ∀ d, cfg.tkF 25 d = (false) := fun _ => rfl
  have hr_ : ∀ g, cfg.raw g = (g == 152 || g == 118) := fun _ => rfl
  refine rF_fn rfl rfl Tryz.func25 rfl ?_
  repeat' first | simp (disch := first | omega | assumption | decide) only [go_sem, hm, hz, ht, hr_, store_ptr, get_end_, get_old_, get_set_self_, get_set_ne_, len_set_, len_add_, bind_some_, map_some_, oneD_fold] | refine ifP_in (fun _ => ?_) fun _ => ?_
  refine rL_loop (σ := Nat) (fun i e K => H <+: K ∧ e 6 = .mr j off len 1 false ∧ e 7 = .i len ∧ e 8 = .i i ∧ e 3 = .sl ((((l.drop off).take i).map Ho.hx).map AV.str) ∧ i ≤ len) (fun i => len - i) 0 ?_ ?_
  · refine ⟨List.prefix_refl _, ?_, ?_, ?_, ?_, by omega⟩
    all_goals first | (simp (disch := first | assumption | omega) only [go_sem]; done) | (simp (disch := first | assumption | omega) only [go_sem]; rfl)
  · rintro i e K ⟨hK, g6, g7, g8, g3, i1⟩
    have hjK : K[j]? = some (l.map uA) := by
      obtain ⟨T, rfl⟩ := hK
      rw [List.getElem?_append_left (List.getElem?_eq_some_iff.1 hj).1]; exact hj
    by_cases hi : i < len
    · have hoi : off + i < l.length := by omega
      have hpi : ∀ {s : Option Nat}, partD (some false) s (l.map uA) (off + i) = some (uA l[off + i]) := fun {s} => by rw [partD_map, List.getElem?_eq_getElem hoi]; rfl
      have hv := hu _ (List.getElem_mem hoi)
      have hts : (l.drop off).take (i + 1) = (l.drop off).take i ++ [l[off + i]] := by
        rw [List.take_succ_eq_append_getElem (by simp; omega)]
        simp
      generalize l[off + i] = v at *
      repeat' first | simp (disch := first | omega | assumption | decide) only [go_sem, hm, hz, ht, hr_, g6, g7, g8, g3, hjK, hpi, plainD_map, store_ptr, get_end_, get_old_, get_set_self_, get_set_ne_, len_set_, len_add_, bind_some_, map_some_, oneD_fold] | refine ifP_in (fun _ => ?_) fun _ => ?_
      refine rF_use (bits_e v hv.1 hv.2) ?_
      rintro _ K1 ⟨rfl, T1, rfl⟩
      have hln : (((l.drop off).take i).map Ho.hx).length ≤ 8 := by simp; omega
      repeat' first | simp (disch := first | omega | assumption | decide) only [go_sem, hm, hz, ht, hr_, g6, g7, g8, g3, store_ptr, get_end_, get_old_, get_set_self_, get_set_ne_, len_set_, len_add_, bind_some_, map_some_, oneD_fold] | refine ifP_in (fun _ => ?_) fun _ => ?_
      exact ⟨i + 1, ⟨hK.trans (List.prefix_append _ _), rfl, by rw [hts]; simp, by omega⟩, by omega⟩
    · obtain rfl : i = len := by omega
      have hjl := Ho.tx6_len ((l.drop off).take i)
      have hll : ((l.drop off).take i).length ≤ 8 := by simp; omega
      have hj := @join_e K (((l.drop off).take i).map Ho.hx) 58 (by show (Ho.tx6 _).length ≤ _; omega) (by simp; omega)
      repeat' first | simp (disch := first | omega | assumption | decide) only [go_sem, hm, hz, ht, hr_, g6, g7, g8, g3, hj, store_ptr, get_end_, get_old_, get_set_self_, get_set_ne_, len_set_, len_add_, bind_some_, map_some_, oneD_fold] | refine ifP_in (fun _ => ?_) fun _ => ?_
      exact ⟨rfl, hK⟩
theorem text0_w : WF Tryz.prog cfg 25 [.sl []] H (fun r H' => r = .str [] ∧ H <+: H') := by
  have hm : ∀ d, cfg.muF 25 d = (false) := fun _ => rfl
  have hz : ∀ d, cfg.fzF 25 d = (false) := fun _ => rfl
  have ht : ∀ d, cfg.tkF 25 d = (false) := fun _ => rfl
  have hr_ : ∀ g, cfg.raw g = (g == 152 || g == 118) := fun _ => rfl
  refine rF_fn rfl rfl Tryz.func25 rfl ?_
  repeat' first | simp (disch := first | omega | assumption | decide) only [go_sem, hm, hz, ht, hr_, store_ptr, get_end_, get_old_, get_set_self_, get_set_ne_, len_set_, len_add_, bind_some_, map_some_, oneD_fold] | refine ifP_in (fun _ => ?_) fun _ => ?_
  refine rL_loop (σ := Unit) (fun i e H9 => H9 = H ∧ e 7 = .i 0 ∧ e 8 = .i 0 ∧ e 3 = .sl []) (fun i => 0) () ?_ ?_
  · refine ⟨rfl, ?_, ?_, ?_⟩
    all_goals first | (simp (disch := first | assumption | omega) only [go_sem]; done) | (simp (disch := first | assumption | omega) only [go_sem]; rfl)
  · rintro i e H9 ⟨rfl, g7, g8, g3⟩
    have hj : ∀ {Q : K (AV → Heap → Prop)}, @rF Tryz.prog cfg 23 [.sl [], .str [58]] H9 Q = Q.v (.str []) H9 := fun {Q} => @join_e H9 [] 58 (by simp [Sp.join]) (by simp) Q
    repeat' first | simp (disch := first | omega | assumption | decide) only [go_sem, hm, hz, ht, hr_, g7, g8, g3, hj, store_ptr, get_end_, get_old_, get_set_self_, get_set_ne_, len_set_, len_add_, bind_some_, map_some_, oneD_fold] | refine ifP_in (fun _ => ?_) fun _ => ?_
    exact List.prefix_refl _
section
variable {P : Program} {t e : TypeId}
theorem sliceP [h1 : UndIs P t (.array 8 e)] [h2 : SizeIs P e 1] [h3 : AggIs P e false] [h4 : SizeIs P t 8] {l : List Int} (hl : l.length = 8) {K : Heap} (hj : K[H.length]? = some (l.map uA)) {lo hi : Option AV} :
    sliceM P K t (.ptr H.length 0) lo hi none = (bound 8 hi 8).bind fun h => (bound h lo 0).bind fun o => some (if o < 8 then .mr H.length o (h - o) 1 false else .sl [], K) := by
  unfold sliceM
  simp only [h1.h, h2.h, h3.h, hj, Option.bind_some]
  rw [if_pos ⟨by omega, plainRow_one one_u, by simp [hl], by omega, h4.h⟩]
  simp only [Nat.mul_one, Nat.zero_add]
theorem sliceP1 [h1 : UndIs P t (.array 8 e)] [h2 : SizeIs P e 1] [h3 : AggIs P e false] [h4 : SizeIs P t 8] {l : List Int} (hl : l.length = 8) {K : Heap} (hj : K[H.length]? = some (l.map uA)) :
    sliceM P K t (.ptr H.length 0) none none none = some (.mr H.length 0 8 1 false, K) := by
  rw [sliceP hl hj]; rfl
theorem sliceP2 [h1 : UndIs P t (.array 8 e)] [h2 : SizeIs P e 1] [h3 : AggIs P e false] [h4 : SizeIs P t 8] {l : List Int} (hl : l.length = 8) {K : Heap} (hj : K[H.length]? = some (l.map uA)) {a : Int} (h0 : 0 ≤ a) (h8 : a ≤ 8) :
    sliceM P K t (.ptr H.length 0) none (some (.v (.int .i64 a))) none = some (.mr H.length 0 a.toNat 1 false, K) := by
  rw [sliceP hl hj]
  have b2 : bound 8 (some (.v (.int .i64 a))) 8 = some a.toNat := by
    unfold bound
    simp only
    rw [if_pos ⟨by omega, by omega⟩]
  rw [b2, Option.bind_some]
  have b1 : bound a.toNat none 0 = some 0 := rfl
  rw [b1, Option.bind_some, if_pos (by omega), Nat.sub_zero]
theorem sliceP3 [h1 : UndIs P t (.array 8 e)] [h2 : SizeIs P e 1] [h3 : AggIs P e false] [h4 : SizeIs P t 8] {l : List Int} (hl : l.length = 8) {K : Heap} (hj : K[H.length]? = some (l.map uA)) {a : Int} (h0 : 0 ≤ a) (h8 : a ≤ 8) :
    sliceM P K t (.ptr H.length 0) (some (.v (.int .i64 a))) none none = some (if a.toNat < 8 then .mr H.length a.toNat (8 - a.toNat) 1 false else .sl [], K) := by
  rw [sliceP hl hj]
  have b1 : bound 8 none 8 = some 8 := rfl
  rw [b1, Option.bind_some]
  have b2 : bound 8 (some (.v (.int .i64 a))) 0 = some a.toNat := by
    unfold bound
    simp only
    rw [if_pos ⟨by omega, by omega⟩]
  rw [b2, Option.bind_some]
end
theorem print6_w (l : List Int) (hl : l.length = 8) (hu : Ho.u16s l) : WF Tryz.prog cfg 10 [.agg (l.map uA)] H (fun r H' => r = .str (Ho.pr6 l) ∧ H <+: H') := by
  have hm : ∀ d, cfg.muF 10 d = (d == 12 || d == 15 || d == 21) := fun _ => rfl
  have hz : ∀ d, cfg.fzF 10 d = (false) := fun _ => rfl
  have ht : ∀ d, cfg.tkF 10 d = (false) := fun _ => rfl
  have hr_ : ∀ g, cfg.raw g = (g == 152 || g == 118) := fun _ => rfl
  refine rF_fn rfl rfl Tryz.func10 rfl ?_
  have ho := one_u (vs := l)
  have hml : (l.map uA).length = 8 := by simp [hl]
  have htk : (l.map uA).take 8 = l.map uA := List.take_of_length_le (by omega)
  obtain ⟨z1, z2, z3, z4⟩ := Ho.zr_ok l
  have hp : Ho.pr6 l = if (Ho.zr l).2 < 2 then Ho.tx6 l else Ho.tx6 (l.take (Ho.zr l).1.toNat) ++ Ho.DC ++ Ho.tx6 (l.drop ((Ho.zr l).1 + (Ho.zr l).2).toNat) := rfl
  rw [hp]
  repeat' first | simp (disch := first | omega | assumption | decide) only [go_sem, hm, hz, ht, hr_, ho, plainD_map, hml, htk, Nat.le_refl, if_true, store_ptr, get_end_, get_old_, get_set_self_, get_set_ne_, len_set_, len_add_, bind_some_, map_some_, oneD_fold] | refine ifP_in (fun _ => ?_) fun _ => ?_
  refine rF_use (zeros_w l hl hu) ?_
  rintro _ K ⟨rfl, T, rfl⟩
  generalize (Ho.zr l).1 = a at *
  generalize (Ho.zr l).2 = n at *
  have hj : (H ++ [l.map uA] ++ T)[H.length]? = some (l.map uA) := by simp
  have s1 := fun {e : TypeId} [h1 : UndIs Tryz.prog 24 (.array 8 e)] [h2 : SizeIs Tryz.prog e 1] [h3 : AggIs Tryz.prog e false] => sliceP1 (P := Tryz.prog) (t := 24) (e := e) hl hj
  by_cases hn : n < 2
  · rw [if_pos hn]
    repeat' first | simp (disch := first | omega | assumption | decide) only [go_sem, hm, hz, ht, hr_, s1, store_ptr, get_end_, get_old_, get_set_self_, get_set_ne_, len_set_, len_add_, bind_some_, map_some_, oneD_fold] | refine ifP_in (fun _ => ?_) fun _ => ?_
    refine rF_use (text_w l hu H.length 0 8 hj (by omega) (by omega)) ?_
    rintro _ H2 ⟨rfl, T2, rfl⟩
    repeat' first | simp (disch := first | omega | assumption | decide) only [go_sem, hm, hz, ht, hr_, store_ptr, get_end_, get_old_, get_set_self_, get_set_ne_, len_set_, len_add_, bind_some_, map_some_, oneD_fold] | refine ifP_in (fun _ => ?_) fun _ => ?_
    rw [List.take_of_length_le (show l.length ≤ 8 by omega)]
    exact ⟨rfl, by simp only [List.append_assoc]; exact List.prefix_append _ _⟩
  · rw [if_neg hn]
    have s2 := fun {e : TypeId} [h1 : UndIs Tryz.prog 24 (.array 8 e)] [h2 : SizeIs Tryz.prog e 1] [h3 : AggIs Tryz.prog e false] => sliceP2 (P := Tryz.prog) (t := 24) (e := e) hl hj (a := a) z1 (by omega)
    repeat' first | simp (disch := first | omega | assumption | decide) only [go_sem, hm, hz, ht, hr_, s2, hj, plainD_map, hml, htk, Nat.le_refl, if_true, store_ptr, get_end_, get_old_, get_set_self_, get_set_ne_, len_set_, len_add_, bind_some_, map_some_, oneD_fold] | refine ifP_in (fun _ => ?_) fun _ => ?_
    refine rF_use (text_w l hu H.length 0 a.toNat hj (by omega) (by omega)) ?_
    rintro _ H2 ⟨rfl, T2, rfl⟩
    have hj2 : (H ++ [l.map uA] ++ T ++ T2)[H.length]? = some (l.map uA) := by simp
    have s3 := fun {e : TypeId} [h1 : UndIs Tryz.prog 24 (.array 8 e)] [h2 : SizeIs Tryz.prog e 1] [h3 : AggIs Tryz.prog e false] => sliceP3 (P := Tryz.prog) (t := 24) (e := e) hl hj2 (a := a + n) (by omega) (by omega)
    have hA : (Ho.tx6 (l.take a.toNat)).length ≤ 40 := by
      have := Ho.tx6_len (l.take a.toNat)
      rw [List.length_take] at this; omega
    have hB : (Ho.tx6 (l.drop (a + n).toNat)).length ≤ 40 := by
      have := Ho.tx6_len (l.drop (a + n).toNat)
      rw [List.length_drop] at this; omega
    have hC : (Ho.tx6 (l.take a.toNat) ++ [58, 58]).length ≤ 42 := by simp; omega
    have hD : ([58, 58] : List UInt8).length = 2 := rfl
    have hN : ([] : List UInt8).length = 0 := rfl
    by_cases h8 : (a + n).toNat < 8
    · rw [if_pos h8] at s3
      repeat' first | simp (disch := first | omega | assumption | decide) only [go_sem, hm, hz, ht, hr_, s3, hj, hj2, plainD_map, hml, htk, Nat.le_refl, if_true, hD, store_ptr, get_end_, get_old_, get_set_self_, get_set_ne_, len_set_, len_add_, bind_some_, map_some_, oneD_fold] | refine ifP_in (fun _ => ?_) fun _ => ?_
      refine rF_use (text_w l hu H.length (a + n).toNat (8 - (a + n).toNat) hj2 (by omega) (by omega)) ?_
      rintro _ H3 ⟨rfl, T3, rfl⟩
      have htd : (l.drop (a + n).toNat).take (8 - (a + n).toNat) = l.drop (a + n).toNat := List.take_of_length_le (by simp; omega)
      rw [htd]
      have hj3 : (H ++ [l.map uA] ++ T ++ T2 ++ T3)[H.length]? = some (l.map uA) := by simp
      repeat' first | simp (disch := first | omega | assumption | decide) only [go_sem, hm, hz, ht, hr_, hj3, plainD_map, hml, htk, Nat.le_refl, if_true, hD, List.length_nil, store_ptr, get_end_, get_old_, get_set_self_, get_set_ne_, len_set_, len_add_, bind_some_, map_some_, oneD_fold] | refine ifP_in (fun _ => ?_) fun _ => ?_
      exact ⟨rfl, by simp only [List.append_assoc]; exact List.prefix_append _ _⟩
    · rw [if_neg h8] at s3
      repeat' first | simp (disch := first | omega | assumption | decide) only [go_sem, hm, hz, ht, hr_, s3, hj, hj2, plainD_map, hml, htk, Nat.le_refl, if_true, hD, store_ptr, get_end_, get_old_, get_set_self_, get_set_ne_, len_set_, len_add_, bind_some_, map_some_, oneD_fold] | refine ifP_in (fun _ => ?_) fun _ => ?_
      refine rF_use text0_w ?_
      rintro _ H3 ⟨rfl, T3, rfl⟩
      have htd : l.drop (a + n).toNat = [] := List.drop_eq_nil_of_le (by omega)
      rw [htd]
      have hj3 : (H ++ [l.map uA] ++ T ++ T2 ++ T3)[H.length]? = some (l.map uA) := by simp
      repeat' first | simp (disch := first | omega | assumption | decide) only [go_sem, hm, hz, ht, hr_, hj3, plainD_map, hml, htk, Nat.le_refl, if_true, hD, List.length_nil, store_ptr, get_end_, get_old_, get_set_self_, get_set_ne_, len_set_, len_add_, bind_some_, map_some_, oneD_fold] | refine ifP_in (fun _ => ?_) fun _ => ?_
      exact ⟨rfl, by simp only [List.append_assoc]; exact List.prefix_append _ _⟩
end Hs
end Go.Proofs
/- The plain law of hosts: there and back. -/
set_option linter.unusedVariables false
set_option linter.unusedSimpArgs false
namespace Go.Proofs
open Go.Lv
namespace Hs
theorem z8 : (Ho.zeros 8).length = 8 := rfl
end Hs
end Go.Proofs
/- Walks: the law on machines. -/
set_option linter.unusedVariables false
set_option linter.unusedSimpArgs false
namespace Go.Proofs
open Go.Lv
namespace Hs
open Pu Ut Utf In
variable {H : Heap}
theorem numbers_w (n : Int) (p : List Int) (sp : Bool) (h0 : 0 ≤ n) (h1 : n < 4294967296) (hl : p.length = 8) (hu : Ho.u16s p) : WF Tryz.prog cfg 3 [.v (.int .u32 n), .agg (p.map uA), .b sp] H (fun r H' => r = .b true) := by
  have hm : ∀ d, cfg.muF 3 d = (false) := fun _ => rfl
  have hz : ∀ d, cfg.fzF 3 d = (false) := fun _ => rfl
  have ht : ∀ d, cfg.tkF 3 d = (false) := fun _ => rfl
  have hr_ : ∀ g, cfg.raw g = (g == 152 || g == 118) := fun _ => rfl
  refine rF_fn rfl rfl Tryz.func3 rfl ?_
  have ho := one_u (vs := p)
  have hml : (p.map uA).length = 8 := by simp [hl]
  have htk : (p.map uA).take 8 = p.map uA := List.take_of_length_le (by omega)
  have z0l := z0l
  have z0o := z0o
  repeat' first | simp (disch := first | omega | assumption | decide) only [go_sem, hm, hz, ht, hr_, first_e, ho, store_ptr, get_end_, get_old_, get_set_self_, get_set_ne_, len_set_, len_add_, bind_some_, map_some_, oneD_fold] | refine ifP_in (fun _ => ?_) fun _ => ?_
  refine rF_use (print4_w n h0 h1) ?_
  rintro _ H1 ⟨rfl, rfl⟩
  have hp4 := Ho.pr4_len n
  repeat' first | simp (disch := first | omega | assumption | decide) only [go_sem, hm, hz, ht, hr_, first_e, store_ptr, get_end_, get_old_, get_set_self_, get_set_ne_, len_set_, len_add_, bind_some_, map_some_, oneD_fold] | refine ifP_in (fun _ => ?_) fun _ => ?_
  refine rF_use (parse_w (Ho.pr4 n) true (by omega)) ?_
  rintro _ H2 ⟨rfl, T2, rfl⟩
  rw [prs_pr4 h0 h1]
  have hc1 := hcells_len (k := 2) (n := []) (v := n) (l := Ho.zeros 8) rfl
  have ho1 := hcells_one (k := 2) (n := []) (v := n) (l := Ho.zeros 8)
  have hc2 := hcells_len (k := 3) (n := []) (v := 0) (l := p) hl
  have ho2 := hcells_one (k := 3) (n := []) (v := 0) (l := p)
  generalize hd1 : hcells 2 [] n (Ho.zeros 8) = c1 at *
  generalize hd2 : hcells 3 [] 0 p = c2 at *
  have hp0 : (H ++ [p.map uA])[H.length]? = some (p.map uA) := by simp
  have hp1 : (H ++ [p.map uA] ++ T2 ++ [c1])[H.length]? = some (p.map uA) := by simp
  repeat' first | simp (disch := first | omega | assumption | decide) only [go_sem, hm, hz, ht, hr_, first_e, ZH, storeH1, load11, hp1, plainD_map, hml, htk, Nat.le_refl, if_true, store_ptr, get_end_, get_old_, get_set_self_, get_set_ne_, len_set_, len_add_, bind_some_, map_some_, oneD_fold] | refine ifP_in (fun _ => ?_) fun _ => ?_
  refine rF_use (print6_w p hl hu) ?_
  rintro _ H3 ⟨rfl, T3, rfl⟩
  have hp6 := Ho.pr6_len p
  have l91 : ([91] : List UInt8).length = 1 := rfl
  have l93 : ([93] : List UInt8).length = 1 := rfl
  have hcc : ([91] ++ Ho.pr6 p).length ≤ 90 := by simp; omega
  have hcc2 : ([91] ++ Ho.pr6 p ++ [93]).length ≤ 1000000 := by simp; omega
  repeat' first | simp (disch := first | omega | assumption | decide) only [go_sem, hm, hz, ht, hr_, first_e, l91, l93, store_ptr, get_end_, get_old_, get_set_self_, get_set_ne_, len_set_, len_add_, bind_some_, map_some_, oneD_fold] | refine ifP_in (fun _ => ?_) fun _ => ?_
  refine rF_use (parse_w ([91] ++ Ho.pr6 p ++ [93]) sp hcc2) ?_
  rintro _ H4 ⟨rfl, T4, rfl⟩
  rw [prs_pr6 hl hu sp, hd2]
  repeat' first | simp (disch := first | omega | assumption | decide) only [go_sem, hm, hz, ht, hr_, first_e, ZH, storeH1, load11, store_ptr, get_end_, get_old_, get_set_self_, get_set_ne_, len_set_, len_add_, bind_some_, map_some_, oneD_fold] | refine ifP_in (fun _ => ?_) fun _ => ?_
  refine rF_use (print4_w n h0 h1) ?_
  rintro _ H5 ⟨rfl, rfl⟩
  have l97 : ([97, 46] : List UInt8).length = 2 := rfl
  have l48 : ([46, 48] : List UInt8).length = 2 := rfl
  have hce : ([97, 46] ++ Ho.pr4 n).length ≤ 90 := by simp; omega
  have hce2 : ([97, 46] ++ Ho.pr4 n ++ [46, 48]).length ≤ 1000000 := by simp; omega
  repeat' first | simp (disch := first | omega | assumption | decide) only [go_sem, hm, hz, ht, hr_, first_e, l97, l48, store_ptr, get_end_, get_old_, get_set_self_, get_set_ne_, len_set_, len_add_, bind_some_, map_some_, oneD_fold] | refine ifP_in (fun _ => ?_) fun _ => ?_
  refine rF_use (parse_w ([97, 46] ++ Ho.pr4 n ++ [46, 48]) true hce2) ?_
  rintro _ H6 ⟨rfl, T6, rfl⟩
  rw [prs_dots h0 h1]
  have hp2 : (H ++ [p.map uA] ++ T2 ++ [c1] ++ T3 ++ T4 ++ [c2] ++ T6 ++ [hz0])[H.length]? = some (p.map uA) := by simp
  repeat' first | simp (disch := first | omega | assumption | decide) only [go_sem, hm, hz, ht, hr_, first_e, ZH, storeH1, load11, hp2, plainD_map, hml, htk, Nat.le_refl, if_true, store_ptr, get_end_, get_old_, get_set_self_, get_set_ne_, len_set_, len_add_, bind_some_, map_some_, oneD_fold] | refine ifP_in (fun _ => ?_) fun _ => ?_
  refine rF_use (print6_w p hl hu) ?_
  rintro _ H7 ⟨rfl, T7, rfl⟩
  repeat' first | simp (disch := first | omega | assumption | decide) only [go_sem, hm, hz, ht, hr_, first_e, l91, store_ptr, get_end_, get_old_, get_set_self_, get_set_ne_, len_set_, len_add_, bind_some_, map_some_, oneD_fold] | refine ifP_in (fun _ => ?_) fun _ => ?_
  refine rF_use (parse_w ([91] ++ Ho.pr6 p) sp (by omega)) ?_
  rintro _ H8 ⟨rfl, T8, rfl⟩
  rw [prs_open hl hu sp]
  repeat' first | simp (disch := first | omega | assumption | decide) only [go_sem, hm, hz, ht, hr_, first_e, ZH, storeH1, load11, store_ptr, get_end_, get_old_, get_set_self_, get_set_ne_, len_set_, len_add_, bind_some_, map_some_, oneD_fold] | refine ifP_in (fun _ => ?_) fun _ => ?_
  have ga : (H ++ [p.map uA] ++ T2 ++ [c1] ++ T3 ++ T4 ++ [c2] ++ T6 ++ [hz0] ++ T7 ++ T8 ++ [hz0])[(H ++ [p.map uA] ++ T2).length]? = some c1 := by simp
  have b2 := @build2 2 n
  have b3 := build3 hl
  rw [hd1] at b2
  rw [hd2] at b3
  repeat' first | simp (disch := first | omega | assumption | decide) only [go_sem, hm, hz, ht, hr_, first_e, ga, load11, ZH, b2, store_ptr, get_end_, get_old_, get_set_self_, get_set_ne_, len_set_, len_add_, bind_some_, map_some_, oneD_fold] | refine ifP_in (fun _ => ?_) fun _ => ?_
  rw [← hd1]
  refine rF_use (same_r 2 [] n (Ho.zeros 8) rfl) ?_
  rintro _ H9 ⟨rfl, T9, rfl⟩
  rw [hd1]
  have gb : (H ++ [p.map uA] ++ T2 ++ [c1] ++ T3 ++ T4 ++ [c2] ++ T6 ++ [hz0] ++ T7 ++ T8 ++ [hz0] ++ T9)[(H ++ [p.map uA] ++ T2 ++ [c1] ++ T3 ++ T4).length]? = some c2 := by simp
  have gp : (H ++ [p.map uA] ++ T2 ++ [c1] ++ T3 ++ T4 ++ [c2] ++ T6 ++ [hz0] ++ T7 ++ T8 ++ [hz0] ++ T9)[H.length]? = some (p.map uA) := by simp
  repeat' first | simp (disch := first | omega | assumption | decide) only [go_sem, hm, hz, ht, hr_, first_e, gb, gp, load11, ZH, b3, plainD_map, hml, htk, Nat.le_refl, if_true, store_ptr, get_end_, get_old_, get_set_self_, get_set_ne_, len_set_, len_add_, bind_some_, map_some_, oneD_fold] | refine ifP_in (fun _ => ?_) fun _ => ?_
  rw [← hd2]
  refine rF_use (same_r 3 [] 0 p hl) ?_
  rintro _ H10 ⟨rfl, T10, rfl⟩
  rw [hd2]
  repeat' first | simp (disch := first | omega | assumption | decide) only [go_sem, hm, hz, ht, hr_, first_e, store_ptr, get_end_, get_old_, get_set_self_, get_set_ne_, len_set_, len_add_, bind_some_, map_some_, oneD_fold] | refine ifP_in (fun _ => ?_) fun _ => ?_
theorem u16s_of {p : List Int} (h : ∀ x ∈ p, (Lit.int .u16 x).wf = true) : Ho.u16s p := fun x hx => by
  have := h x hx
  simp [Lit.wf, IntKind.min, IntKind.max, IntKind.signed, IntKind.bits] at this
  omega
theorem numbers_row (n : Int) (p : List Int) (sp : Bool) (hn : (Lit.int .u32 n).wf = true) (hl : p.length = 8) (hu : ∀ x ∈ p, (Lit.int .u16 x).wf = true) : WF Tryz.prog cfg 3 [.v (.int .u32 n), .agg (p.map uA), .b sp] H (fun r H' => r = .b true) := by
  simp [Lit.wf, IntKind.min, IntKind.max, IntKind.signed, IntKind.bits] at hn
  exact numbers_w n p sp (by omega) (by omega) hl (u16s_of hu)
end Hs
end Go.Proofs
