/- A value semantics of the loaded code, its soundness, and walks through functions over it. -/
import Derived.Test.YtfkjkmjkfnephaaGreatDoorLvAll6
import Derived.Shelf.Spec.SlicesInsert
import Derived.Shelf.Spec.SlicesInsertGrow
set_option linter.unusedVariables false
set_option linter.unusedSimpArgs false
namespace Go.Lv
open Go.Proofs
section
variable {P : Program} {F : Facts} {L : List Nat} {w : World} {H : Heap}
def insertA (H : Heap) : List AV → Option (AV × Heap)
 | [.v (.slice none 0 0), .v (.int .i64 0), .sl ys] =>
  if 0 < ys.length ∧ ys.length * 8 ≤ 140737488355328 ∧ (∀ a ∈ ys, a.cells.length = 1 ∧ a.cells.all AV.one = true) then
   some (.mr H.length 0 (0 + ys.length) 1 false, H ++ [ys.flatMap AV.cells]) else none
 | [.mr j 0 len 1 false, .v (.int .i64 i), .sl ys] => (H[j]?).bind fun cs =>
  if 0 ≤ i ∧ i ≤ len ∧ len ≤ cs.length ∧ cs ≠ [] ∧ cs.all AV.one = true ∧ 0 < ys.length ∧ (len + ys.length) * 8 ≤ 140737488355328 ∧ (∀ a ∈ ys, a.cells.length = 1 ∧ a.cells.all AV.one = true) then
   some (.mr H.length 0 (len + ys.length) 1 false, H.set j [] ++ [cs.take i.toNat ++ (ys.flatMap AV.cells ++ (cs.take len).drop i.toNat)]) else none
 | _ => none
def insertSig : Sig := { ps := [none, none, some 1], rs := [] }
theorem ins_new {w' : World} {vs : List Value} {arr : List Value} {t : TypeId} {H0 : Heap} {cs' : List AV} {m cap : Nat} (hS : St P F L NX w H0) (hg : Grew w w' arr t (0, 0)) (hm : m ≤ cap) (hcap : cap = arr.length) (hx : cap ≤ 9223372036854775807)
  (hmc : isMv cs' = false) (hl : cs'.length ≤ cap) (hr : ∀ (k : Nat) c, cs'[k]? = some c → Rel F L c (arr.getD k undef)) :
  ∃ v F' L', Ending.returned (.slice (some ⟨w.heap.size, 0, none⟩) m cap) = .returned v ∧ Ret P insertSig F L w vs (.mr H0.length 0 m 1 false) (H0 ++ [cs']) v F' L' w' := by
 obtain ⟨F', f1, f2, hS', hgo⟩ := hS.varR hg cs' cap (by omega) hmc hl hr
 refine ⟨_, F', _, rfl, ⟨?_, hS', hgo.weaken (fun _ _ h => h.elim), by simp [insertSig], by simp [insertSig]⟩⟩
 refine .mr _ 0 _ 1 cap w.heap.size false ?_ hm (by omega) ?_ hx
 ·rw [xgR (by rw [hS.len]; exact Nat.le_refl _), hS.len, Nat.sub_self]; rfl
 ·rw [f2, if_pos rfl]; omega
theorem ins_same {w' : World} {vs : List Value} {arr' : List Value} {t : TypeId} {j B : Nat} {cs cs' : List AV} {m cap : Nat} (hS : St P F L NX w H) (hj : H[j]? = some cs) (hne : cs ≠ []) (hpr : plainRow cs = true) (hmc : isMv cs' = false) (hB : L[j]? = some B)
  (hsize : w'.heap.size = w.heap.size) (hold : ∀ b, b < w.heap.size → b ≠ B → w'.heap[b]? = w.heap[b]?) (hnew : Holds w' B arr' t) (hrest : w'.os = w.os ∧ w'.tape = w.tape ∧ w'.output = w.output)
  (hm : m ≤ cap) (hx : cap ≤ 9223372036854775807) (hroom : F.room B ≤ arr'.length) (hcr : cap ≤ F.room B) (hl : cs'.length ≤ cap) (hr : ∀ (k : Nat) c, cs'[k]? = some c → Rel F L c (arr'.getD k undef)) :
  ∃ v F' L', Ending.returned (.slice (some ⟨B, 0, none⟩) m cap) = .returned v ∧ Ret P insertSig F L w vs (.mr H.length 0 m 1 false) (H.set j [] ++ [cs']) v F' L' w' := by
 obtain ⟨hS', hgo⟩ := hS.redo (cs' := cs') hj hne hpr hmc hB hsize hold hnew hrest (Nat.le_trans hl hcr) hroom hr
 refine ⟨_, F, _, rfl, ⟨?_, hS', hgo.weaken (fun _ _ h => h.elim), by simp [insertSig], by simp [insertSig]⟩⟩
 refine .mr _ 0 _ 1 cap B false ?_ hm (by omega) (by omega) hx
 rw [xgR (by rw [hS.len]; exact Nat.le_refl _), hS.len, Nat.sub_self]; rfl
theorem three {a b c : List AV} {x y z : List Value} (hxa : a.length = x.length) (hyb : b.length = y.length) (h1 : ∀ (k : Nat) e, a[k]? = some e → Rel F L e (x.getD k undef)) (h2 : ∀ (k : Nat) e, b[k]? = some e → Rel F L e (y.getD k undef)) (h3 : ∀ (k : Nat) e, c[k]? = some e → Rel F L e (z.getD k undef)) :
  ∀ (k : Nat) e, (a ++ (b ++ c))[k]? = some e → Rel F L e ((x ++ (y ++ z)).getD k undef) := by
 intro k e he
 rw [xgD]
 rcases Nat.lt_or_ge k a.length with hl | hl
 ·rw [xgL hl] at he
  rw [xgL (by omega), ← xgD]
  exact h1 k e he
 ·rw [xgR hl] at he
  rw [xgR (by omega), ← hxa]
  rcases Nat.lt_or_ge (k - a.length) b.length with hl2 | hl2
  ·rw [xgL hl2] at he
   rw [xgL (by omega), ← xgD]
   exact h2 _ e he
  ·rw [xgR hl2] at he
   rw [xgR (by omega), ← hyb, ← xgD]
   exact h3 _ e he
theorem rel_get {cs' : List AV} {x arr : List Value} (h : ∀ (k : Nat) c, cs'[k]? = some c → Rel F L c (x.getD k undef)) (hx : cs'.length ≤ x.length) (ha : ∀ k, k < x.length → arr[k]? = x[k]?) : ∀ (k : Nat) c, cs'[k]? = some c → Rel F L c (arr.getD k undef) := by
 intro k c hk
 have := h k c hk
 have hl := (xgI.1 hk).1
 rw [xgD] at this ⊢
 rw [ha k (by omega)]; exact this
theorem drew_heap (w : World) : w.drew.heap = w.heap := rfl
theorem insert_ok {ρ : Shelf.Ren} (hL : Lays2.n21 P ρ) {args : List AV} {r : AV} {H' : Heap} (h : insertA H args = some (r, H')) : CallOK P insertSig (ρ.f 21) args H r H' := by
 intro F L w vs hS hvl hrel hown hglob
 have third : ∀ (ys : List AV) (v : Value), 0 < ys.length → (∀ a ∈ ys, a.cells.length = 1 ∧ a.cells.all AV.one = true) → Rel F L (.sl ys) v → Own F L NX w 1 v →
   ∃ (vb voff vc : Nat) (news arr : List Value) (t : TypeId), v = .slice (some ⟨vb, voff, none⟩) ys.length vc ∧ news.length = ys.length ∧ (∀ (j : Nat) u, news[j]? = some u → w.cell? ⟨vb, voff + j, none⟩ = some u) ∧ (∀ u ∈ news, u.oneCell' = true) ∧
    (∀ (k : Nat) c, (ys.flatMap AV.cells)[k]? = some c → Rel F L c (news.getD k undef)) ∧ w.heap[vb]? = some (.cells (List.toArray arr) t (0, 0)) ∧ vb ∉ L := by
  intro ys v hpos hys hv ho
  obtain ⟨ad, cap, news, rfl, hcap, hnone, hrow, hone, hF⟩ := hv.row hS (fun a ha => (hys a ha).1)
  have hnl : news.length = ys.length := by have := hrow.len; omega
  obtain ⟨B, o, rfl, hf⟩ := hF (by intro he; rw [he] at hnl; simp at hnl; omega)
  obtain ⟨h1, h2, h3, h4, h5, h6, h7, arr, t, h8⟩ := ho _ _ _ rfl
  exact ⟨B, o, cap, news, arr, t, rfl, hnl, fun j u hu => (hS.mem _ _ _ (hf j u hu)).1, hone, row_flat hrow (by omega), h8, h4⟩
 have hflat : ∀ ys : List AV, (∀ a ∈ ys, a.cells.length = 1 ∧ a.cells.all AV.one = true) → (ys.flatMap AV.cells).length = ys.length := fun ys hys => by
  have := flat_length (n := 1) ys (fun a ha => (hys a ha).1)
  omega
 have hmvf : ∀ ys : List AV, (∀ a ∈ ys, a.cells.length = 1 ∧ a.cells.all AV.one = true) → (ys.flatMap AV.cells).all AV.one = true := fun ys hys => by
  rw [List.all_eq_true]
  intro c hc
  obtain ⟨a, ha, hca⟩ := List.mem_flatMap.1 hc
  exact List.all_eq_true.1 (hys a ha).2 c hca
 have hmvo : ∀ cs : List AV, cs.all AV.one = true → isMv cs = false := fun cs h => (plainRow_spec (plainRow_one h)).1
 have hml : ∀ x : Nat, x * 8 ≤ 140737488355328 → x ≤ maxLen := fun x hx => by unfold maxLen; omega
 have hzs : ∀ k, (Builtin.zeroCells (Value.int .i64 0).cells k).toList.length = k := fun k => by
  rw [Array.length_toList, size_zeroCells]
  simp [Value.cells]
 have grew : ∀ (a : List Value) (k : Nat) (t : TypeId), Grew w (w.drew.alloc (.cells (a.toArray ++ Builtin.zeroCells (Value.int .i64 0).cells k) t)) (a ++ (Builtin.zeroCells (Value.int .i64 0).cells k).toList) t (0, 0) := by
  intro a k t
  have e : a.toArray ++ Builtin.zeroCells (Value.int .i64 0).cells k = (a ++ (Builtin.zeroCells (Value.int .i64 0).cells k).toList).toArray := by
   apply Array.ext'
   simp
  rw [e]
  exact ⟨by simp, fun B hB => heap_alloc_old w.drew _ hB, _root_.Go.heap_alloc_new w.drew _, rfl, rfl, rfl⟩
 unfold insertA at h
 split at h
 ·rename_i ys
  split at h
  ·rename_i hc
   obtain ⟨c1, c2, c3⟩ := hc
   injection h with h; injection h with h1 h2; subst h1 h2
   match vs, hvl with
   | [v0, v1, v2], _ =>
    have r0 := hrel 0 _ rfl
    have r1 := hrel 1 _ rfl
    have r2 := hrel 2 _ rfl
    simp only [List.getD_cons_zero, List.getD_cons_succ] at r0 r1 r2
    have e0 : v0 = .slice none 0 0 := nil_val r0
    obtain ⟨e1, _⟩ := r1.v_eq
    subst e0 e1
    obtain ⟨vb, voff, vc, news, arr, t, rfl, k1, k2, k3, k4, k5, k6⟩ := third ys v2 c1 c3 r2 (hown.1 2 1 rfl)
    have hcall := Any2.slices_Insert_int_end_grow hL none 0 0 vb voff ys.length vc [] news w c1 (by omega) (by omega) (by omega) rfl k1 (fun _ => rfl) (by simp) k2 k3
    refine Calls.mono hcall ?_
    rintro e w' ⟨rfl, rfl⟩
    have hge := grownCap_ge w (0 + ys.length) 0 (ρ.t 3)
    rw [List.nil_append]
    refine ins_new hS (grew news _ _) hge (by rw [List.length_append, hzs]; omega) (grownCap_le_maxLen w _ _ _ (hml _ (by omega))) (hmvo _ (hmvf ys c3)) (by rw [hflat ys c3]; omega) (rel_get k4 (by rw [hflat ys c3]; omega) (fun k hk => by rw [xgL hk]))
   | [], h => simp at h
   | [_], h => simp at h
   | [_, _], h => simp at h
   | _ :: _ :: _ :: _ :: _, h => simp at h
  ·cases h
 ·rename_i j len i ys
  obtain ⟨cs, hj, h⟩ := xoB.1 h
  split at h
  ·rename_i hc
   obtain ⟨c1, c2, c3, c4, c5, c6, c7, c8⟩ := hc
   injection h with h; injection h with h1 h2; subst h1 h2
   match vs, hvl with
   | [v0, v1, v2], _ =>
    have r0 := hrel 0 _ rfl
    have r1 := hrel 1 _ rfl
    have r2 := hrel 2 _ rfl
    simp only [List.getD_cons_zero, List.getD_cons_succ] at r0 r1 r2
    obtain ⟨e1, _⟩ := r1.v_eq
    subst e1
    obtain ⟨vb, voff, vc, news, varr, vt, rfl, k1, k2, k3, k4, k5, k6⟩ := third ys v2 c6 c8 r2 (hown.1 2 1 rfl)
    obtain ⟨k, rfl⟩ : ∃ k : Nat, i = k := ⟨i.toNat, by omega⟩
    have hk : k ≤ len := by omega
    cases r0 with
    | mr _ _ _ _ cap B _ hB hcap hn0 hroom hx =>
     obtain ⟨arr, ta, m1, m2, m3, m4⟩ := hS.obj j cs B hj c4 (hmvo cs c5) hB
     have hBlt := hS.ltL (mem_of_get hB)
     have hone' : ∀ c ∈ cs, c.one = true := List.all_eq_true.1 c5
     have hvbB : vb ≠ B := fun e => k6 (e ▸ mem_of_get hB)
     obtain ⟨old, hold⟩ : ∃ old : List Value, old = arr.take len := ⟨_, rfl⟩
     have hol : old.length = len := by rw [hold]; simp; omega
     have hog : ∀ i, i < len → old[i]? = arr[i]? := fun i hi => by rw [hold, List.getElem?_take, if_pos hi]
     have hoc : ∀ (i : Nat) u, old[i]? = some u → w.cell? ⟨B, 0 + i, none⟩ = some u := by
      intro i u hu
      have hil : i < len := hol ▸ (xgI.1 hu).1
      rw [Nat.zero_add, m1.cell, ← hog i hil, hu]
     have ho1 : ∀ u ∈ old, u.oneCell' = true := by
      intro u hu
      obtain ⟨i, hi⟩ := List.mem_iff_getElem?.1 hu
      have hil : i < len := hol ▸ (xgI.1 hi).1
      have hic : i < cs.length := by omega
      have := (m4 i _ (xgE hic)).one (hone' _ (List.getElem_mem hic))
      rw [hog i hil, getD_get (by omega)] at hi
      injection hi with hi
      rwa [hi] at this
     have hrt : ∀ (q : Nat) c, (cs.take k)[q]? = some c → Rel F L c ((old.take k).getD q undef) := by
      intro q c hq
      have hqk : q < k := by have := (xgI.1 hq).1; simp at this; omega
      rw [List.getElem?_take, if_pos hqk] at hq
      rw [xgD, List.getElem?_take, if_pos hqk, hog q (by omega), ← xgD]
      exact m4 q c hq
     have hrd : ∀ (q : Nat) c, ((cs.take len).drop k)[q]? = some c → Rel F L c ((old.drop k).getD q undef) := by
      intro q c hq
      have hql : q < len - k := by have := (xgI.1 hq).1; simp at this; omega
      rw [List.getElem?_drop, List.getElem?_take, if_pos (by omega)] at hq
      rw [xgD, List.getElem?_drop, hog _ (by omega), ← xgD]
      exact m4 _ c hq
     have hfl := hflat ys c8
     have hmc : isMv (cs.take k ++ (ys.flatMap AV.cells ++ (cs.take len).drop k)) = false := by
      refine hmvo _ ?_
      rw [List.all_append, List.all_append, hmvf ys c8, Bool.true_and, Bool.and_eq_true]
      refine ⟨List.all_eq_true.2 fun c hc => hone' c (List.mem_of_mem_take hc), List.all_eq_true.2 fun c hc => hone' c (List.mem_of_mem_take (List.mem_of_mem_drop hc))⟩
     have htk : (cs.take k).length = k := by simp; omega
     have hcsl : (cs.take k ++ (ys.flatMap AV.cells ++ (cs.take len).drop k)).length = len + ys.length := by simp [hfl]; omega
     have h3 := three (F := F) (L := L) (a := cs.take k) (b := ys.flatMap AV.cells) (c := (cs.take len).drop k) (x := old.take k) (y := news) (z := old.drop k) (by simp [hol]; omega) (by omega) hrt k4 hrd
     have hxl : (old.take k ++ (news ++ old.drop k)).length = len + ys.length := by simp [hol, k1]; omega
     simp only [Int.toNat_natCast]
     have hcapr : cap ≤ F.room B := by omega
     by_cases hr : len + ys.length ≤ cap
     ·obtain ⟨fr, m0, hfr⟩ := id m1
      have hfz : ∀ q, q < cap → w.frozen? ⟨B, q, none⟩ = false := fun q hq => m1.soft (by omega)
      have hsp : ∀ q, q < cap → (w.cell? ⟨B, q, none⟩).isSome = true := fun q hq => by
       rw [m1.cell, xgE (by omega)]; rfl
      rcases Nat.eq_or_lt_of_le hk with he | hlt
      ·subst he
       have hcall := Any2.slices_Insert_int_end_room hL B 0 k cap vb voff ys.length vc news w c6 hr hx k1 (fun q hq => hsp _ (by omega)) (fun q hq => hfz _ (by omega)) k2 k3
       refine Calls.mono hcall ?_
       rintro e w' ⟨rfl, rfl⟩
       obtain ⟨arr', p1, p2, p3⟩ := setCells_row B news (0 + k) w arr ta m0 (by omega)
       refine ins_same hS hj c4 (plainRow_one c5) hmc hB (setCells_size B news _ w) (fun b hb hne => World.heap_setCells_other w B _ news hb hne) ⟨fr, p1, by rw [p2]; exact hfr⟩ ⟨World.os_setCells w B _ news, setCells_tape B news _ w, World.output_setCells w B _ news⟩ hr hx (by omega) hcapr (by omega)
        (rel_get h3 (by omega) (fun q hq => ?_))
       rw [p3]
       have hdr : old.drop k = [] := List.drop_of_length_le (by omega)
       have htko : old.take k = old := List.take_of_length_le (by omega)
       rw [hdr, htko, List.append_nil]
       rw [hxl] at hq
       by_cases hqk : q < k
       ·rw [if_neg (by omega), xgL (by omega), hog q hqk]
       ·rw [if_pos (by omega), xgR (by omega), hol, Nat.zero_add]
      ·have hcall := Any2.slices_Insert_int_shift hL B 0 len cap k vb voff ys.length vc old news w hlt c6 hr hx hvbB hol k1 hoc (fun q hq => by rw [Nat.zero_add]; exact hsp _ (by omega)) (fun q hq => hfz _ (by omega)) k2 ho1 k3
        vt ta varr.length arr.length (by unfold World.shape?; rw [k5]; simp) (by unfold World.shape?; rw [m0]; simp) (by omega) (by unfold World.frozen?; rw [k5]; simp) (by unfold World.frozen?; rw [k5]; simp)
       refine Calls.mono hcall ?_
       rintro e w' ⟨rfl, rfl⟩
       have hdl : (old.drop k).length = len - k := by simp [hol]
       obtain ⟨arr1, p1, p2, p3⟩ := setCells_row B (old.drop k) (0 + (k + ys.length)) w.drew arr ta m0 (by omega)
       obtain ⟨arr2, q1, q2, q3⟩ := setCells_row B news (0 + k) _ arr1 ta p1 (by omega)
       refine ins_same hS hj c4 (plainRow_one c5) hmc hB (by rw [setCells_size, setCells_size]; rfl) (fun b hb hne => ?_) ⟨fr, q1, by rw [q2, p2]; exact hfr⟩ ⟨by rw [World.os_setCells, World.os_setCells]; rfl, by rw [setCells_tape, setCells_tape]; rfl, by rw [World.output_setCells, World.output_setCells]; rfl⟩ hr hx (by omega) hcapr (by omega)
        (rel_get h3 (by omega) (fun q hq => ?_))
       ·rw [World.heap_setCells_other _ B _ news (by rw [setCells_size]; exact hb) hne, World.heap_setCells_other w.drew B _ _ hb hne]; rfl
       ·rw [hxl] at hq
        rw [q3, k1]
        by_cases hqk : q < k
        ·rw [if_neg (by omega), p3, if_neg (by omega), xgL (by simp [hol]; omega), List.getElem?_take, if_pos hqk, hog q (by omega)]
        ·rw [xgR (by simp [hol]; omega)]
         have ht : (old.take k).length = k := by simp [hol]; omega
         rw [ht]
         by_cases hqn : q < k + ys.length
         ·rw [if_pos (by omega), xgL (by omega), Nat.zero_add]
         ·rw [if_neg (by omega), p3, if_pos (by omega), xgR (by omega), Nat.zero_add]
          congr 1; omega
     ·have hge := grownCap_ge w (len + ys.length) cap (ρ.t 3)
      have hlenset : (H.set j []).length = H.length := by simp
      have hgc := grownCap_le_maxLen w (len + ys.length) cap (ρ.t 3) (hml _ (by omega))
      rcases Nat.eq_or_lt_of_le hk with he | hlt
      ·subst he
       have hcall := Any2.slices_Insert_int_end_grow hL (some ⟨B, 0, none⟩) k cap vb voff ys.length vc old news w c6 hcap (by omega) (by omega) hol k1 (fun h => by cases h) (fun a ha q u hu => by injection ha with ha; subst ha; rw [add_at]; exact hoc q u hu) k2 k3
       refine Calls.mono hcall ?_
       rintro e w' ⟨rfl, rfl⟩
       have := ins_new (H0 := H.set j []) (cs' := cs.take k ++ (ys.flatMap AV.cells ++ (cs.take k).drop k)) (vs := [Value.slice (some ⟨B, 0, none⟩) k cap, .int .i64 k, .slice (some ⟨vb, voff, none⟩) ys.length vc]) (hS.dead j) (grew (old ++ news) (grownCap w (k + ys.length) cap (ρ.t 3) - (k + ys.length)) (ρ.t 3)) hge (by rw [List.length_append, List.length_append, hzs]; omega) hgc hmc (by rw [hcsl]; exact hge)
        (rel_get h3 (by omega) (fun q hq => by
         have hdr : old.drop k = [] := List.drop_of_length_le (by omega)
         have htko : old.take k = old := List.take_of_length_le (by omega)
         rw [hdr, htko, List.append_nil] at hq ⊢
         rw [xgL hq]))
       rw [hlenset] at this
       exact this
      ·have hcall := Any2.slices_Insert_int_grow hL B 0 len cap k vb voff ys.length vc old news w hlt c6 hcap (by omega) (by omega) hol k1 hoc k2 ho1 k3
       refine Calls.mono hcall ?_
       rintro e w' ⟨rfl, rfl⟩
       have hdl : (old.drop k).length = len - k := by simp [hol]
       have ht : (old.take k).length = k := by simp [hol]; omega
       obtain ⟨z1, hz1⟩ : ∃ z, z = (Builtin.zeroCells (Value.int .i64 0).cells (len + ys.length - k)).toList := ⟨_, rfl⟩
       obtain ⟨z2, hz2⟩ : ∃ z, z = (Builtin.zeroCells (Value.int .i64 0).cells (grownCap w (len + ys.length) cap (ρ.t 3) - (len + ys.length))).toList := ⟨_, rfl⟩
       have hz1l : z1.length = len + ys.length - k := by rw [hz1, hzs]
       have hz2l : z2.length = grownCap w (len + ys.length) cap (ρ.t 3) - (len + ys.length) := by rw [hz2, hzs]
       have earr : (old.take k).toArray ++ Builtin.zeroCells (Value.int .i64 0).cells (len + ys.length - k) ++ Builtin.zeroCells (Value.int .i64 0).cells (grownCap w (len + ys.length) cap (ρ.t 3) - (len + ys.length)) = (old.take k ++ (z1 ++ z2)).toArray := by
        apply Array.ext'
        simp [hz1, hz2]
       rw [earr]
       have hlen0 : (old.take k ++ (z1 ++ z2)).length = grownCap w (len + ys.length) cap (ρ.t 3) := by rw [List.length_append, List.length_append]; omega
       generalize hA : old.take k ++ (z1 ++ z2) = arr0 at hlen0
       have hnew0 : (w.alloc (.cells arr0.toArray (ρ.t 3))).drew.heap[w.heap.size]? = some (.cells arr0.toArray (ρ.t 3) (0, 0)) := _root_.Go.heap_alloc_new w _
       obtain ⟨arr1, p1, p2, p3⟩ := setCells_row w.heap.size news k (w.alloc (.cells arr0.toArray (ρ.t 3))).drew arr0 (ρ.t 3) hnew0 (by omega)
       obtain ⟨arr2, q1, q2, q3⟩ := setCells_row w.heap.size (old.drop k) (k + ys.length) (((w.alloc (.cells arr0.toArray (ρ.t 3))).drew.setCells w.heap.size k news).drew) arr1 (ρ.t 3) p1 (by omega)
       have hsz0 : (w.alloc (.cells arr0.toArray (ρ.t 3))).drew.heap.size = w.heap.size + 1 := by simp
       have hg : Grew w ((((w.alloc (.cells arr0.toArray (ρ.t 3))).drew.setCells w.heap.size k news).drew).setCells w.heap.size (k + ys.length) (old.drop k)) arr2 (ρ.t 3) (0, 0) := by
        refine ⟨?_, fun b hb => ?_, q1, ?_, ?_, ?_⟩
        ·rw [setCells_size, drew_heap, setCells_size, hsz0]
        ·rw [World.heap_setCells_other _ w.heap.size _ (old.drop k) (by rw [drew_heap, setCells_size, hsz0]; omega) (by omega), drew_heap, World.heap_setCells_other _ w.heap.size _ news (by rw [hsz0]; omega) (by omega)]
         exact heap_alloc_old w _ hb
        ·rw [World.os_setCells]; show (((w.alloc (.cells arr0.toArray (ρ.t 3))).drew.setCells w.heap.size k news)).os = w.os; rw [World.os_setCells]; rfl
        ·rw [setCells_tape]; show (((w.alloc (.cells arr0.toArray (ρ.t 3))).drew.setCells w.heap.size k news)).tape = w.tape; rw [setCells_tape]; rfl
        ·rw [World.output_setCells]; show (((w.alloc (.cells arr0.toArray (ρ.t 3))).drew.setCells w.heap.size k news)).output = w.output; rw [World.output_setCells]; rfl
       have := ins_new (H0 := H.set j []) (cs' := cs.take k ++ (ys.flatMap AV.cells ++ (cs.take len).drop k)) (vs := [Value.slice (some ⟨B, 0, none⟩) len cap, .int .i64 k, .slice (some ⟨vb, voff, none⟩) ys.length vc]) (hS.dead j) hg hge (by omega) hgc hmc (by omega)
        (rel_get h3 (by omega) (fun q hq => by
         rw [hxl] at hq
         rw [q3, hdl]
         by_cases hqk : q < k
         ·rw [if_neg (by omega), p3, if_neg (by omega), ← hA, xgL (by omega), xgL (by omega)]
         ·rw [List.getElem?_append_right (l₁ := old.take k) (by omega), ht]
          by_cases hqn : q < k + ys.length
          ·rw [if_neg (by omega), p3, if_pos (by omega), xgL (by omega)]
          ·rw [if_pos (by omega), xgR (by omega)]
           congr 1; omega))
       rw [hlenset] at this
       exact this
   | [], h => simp at h
   | [_], h => simp at h
   | [_, _], h => simp at h
   | _ :: _ :: _ :: _ :: _, h => simp at h
  ·cases h
 ·cases h
end
end Go.Lv
