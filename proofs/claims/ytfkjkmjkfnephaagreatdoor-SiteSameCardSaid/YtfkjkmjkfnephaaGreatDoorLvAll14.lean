/- A value semantics of the loaded code, its soundness, and walks through functions over it. -/
import Derived.Test.YtfkjkmjkfnephaaGreatDoorLvAll10
import Derived.Shelf.SlicesE.DeleteFunc
set_option linter.unusedVariables false
set_option linter.unusedSimpArgs false
namespace Go.Lv
section
variable {P : Program} {F : Facts} {L : List Nat} {w : World} {H : Heap}
def i64A (n : Int) : AV := .v (.int .i64 n)
def tabs (c : Int) : Bool := c == 9 || c == 10 || c == 13
def i64s : List AV → Option (List Int)
 | [] => some []
 | .v (.int .i64 n) :: r => (i64s r).map (n :: ·)
 | _ => none
theorem i64s_spec : ∀ {xs : List AV} {ns : List Int}, i64s xs = some ns → xs = ns.map i64A := by
 intro xs
 induction xs with
 | nil => intro ns h; injection h with h; subst h; rfl
 | cons x xs ih =>
  intro ns h
  unfold i64s at h
  split at h
  ·rename_i h1; cases h1
  ·rename_i h1
   injection h1 with h1 h2; subst h1 h2
   obtain ⟨ms, h3, rfl⟩ := xoM.1 h
   rw [ih h3]; rfl
  ·cases h
def DelRow (P : Program) (f g : FuncId) (p : Int → Bool) : Prop :=
 ∀ (w : World) (blk off cap : Nat) (d : Array Int), blk < w.heap.size → Go.Sort.Holds (Value.int .i64) w blk off d → d.size ≤ 9223372036854775807 → d.size ≤ cap →
  Calls P f #[.slice (some ⟨blk, off, none⟩) d.size cap, .func (.func g) #[] #[]] w fun e w' => e = .returned (.slice (some ⟨blk, off, none⟩) (d.toList.filter fun x => !p x).length cap) ∧ ∃ q, w' = Go.Sort.putRow (Value.int .i64) (Go.Sort.ahead w q) blk off ((d.toList.filter fun x => !p x) ++ List.replicate (d.size - (d.toList.filter fun x => !p x).length) 0).toArray
def DelNone (P : Program) (f g : FuncId) : Prop :=
 ∀ (w : World) (a : Option Addr) (cap : Nat), Calls P f #[.slice a 0 cap, .func (.func g) #[] #[]] w fun e w' => e = .returned (.slice a 0 cap) ∧ w' = w
def deleteT (g : FuncId) (p : Int → Bool) (H : Heap) : List AV → Option (AV × Heap)
 | [.mr j off len 1 false, .fn g' []] => (H[j]?).bind fun cs => (i64s ((cs.drop off).take len)).bind fun ns =>
  if g' = g ∧ off + len ≤ cs.length ∧ 0 < len ∧ cs.all AV.one = true then
   some (if (ns.filter fun x => !p x).length = 0 then .sl [] else .mr j off (ns.filter fun x => !p x).length 1 false,
    H.set j (cs.take off ++ ((ns.filter fun x => !p x) ++ List.replicate (len - (ns.filter fun x => !p x).length) 0).map i64A ++ cs.drop (off + len))) else none
 | [.sl [], .fn g' []] => if g' = g then some (.sl [], H) else none
 | _ => none
theorem deleteT_ok {f g : FuncId} {p : Int → Bool} (hr : DelRow P f g p) (hn : DelNone P f g) {args : List AV} {r : AV} {H' : Heap} (h : deleteT g p H args = some (r, H')) : CallOK P {} f args H r H' := by
 intro F L w vs hS hvl hrel hown hglob
 unfold deleteT at h
 split at h
 ·rename_i j off len g'
  obtain ⟨cs, hj, h2⟩ := xoB.1 h
  clear h
  obtain ⟨ns, hns, h⟩ := xoB.1 h2
  clear h2
  split at h
  ·rename_i hc
   obtain ⟨rfl, hlen, h0, hone⟩ := hc
   obtain ⟨h1, h2⟩ := Prod.mk.inj (Option.some.inj h); subst h1 h2
   match vs, hvl with
   | [v1, v2], _ =>
    have r1 : Rel F L (.mr j off len 1 false) v1 := hrel 0 _ rfl
    have r2 : Rel F L (.fn g' []) v2 := hrel 1 _ rfl
    cases r2 with
    | fn _ _ arr2 hl2 _ =>
    have ha2 : arr2 = [] := List.eq_nil_of_length_eq_zero (by simpa using hl2)
    subst ha2
    cases r1 with
    | mr _ _ _ _ cap B _ hB hcap hn0 hroom hxx =>
     have hx := i64s_spec hns
     have hnl : ns.length = len := by
      have := congrArg List.length hx
      simp at this; omega
     have hne : cs ≠ [] := fun e => by rw [e] at hlen; simp at hlen; omega
     have hpl := plainRow_one hone
     obtain ⟨arr, ta, m1, m2, m3, m4⟩ := hS.obj j cs B hj hne (plainRow_spec hpl).1 hB
     have hcell : ∀ i, i < len → arr[off + i]? = some (.int .i64 (ns.getD i 0)) := by
      intro i hi
      have h1 : ((cs.drop off).take len)[i]? = some (i64A (ns.getD i 0)) := by
       rw [hx, List.getElem?_map, xgD, xgE (by omega)]; rfl
      rw [List.getElem?_take, if_pos hi, List.getElem?_drop] at h1
      obtain ⟨e, _⟩ := (m4 _ _ h1).v_eq
      rw [e]; exact getD_get (by omega)
     have hH : Go.Sort.Holds (Value.int .i64) w B off ns.toArray := by
      intro i hi
      have hi' : i < len := by simpa [hnl] using hi
      refine ⟨?_, m1.soft (by omega)⟩
      rw [m1.cell, hcell i hi']
      have : ns.toArray[i]! = ns.getD i 0 := by
       rw [getElem!_pos ns.toArray i hi, xgD, xgE (by omega)]; simp
      rw [this]
     have hcall := hr w B off cap ns.toArray (hS.ltL (mem_of_get hB)) hH (by simp; omega) (by simp; omega)
     have hsz : ns.toArray.size = len := by simpa using hnl
     rw [hsz] at hcall
     refine hcall.mono ?_
     rintro e w' ⟨rfl, q, rfl⟩
     simp only [List.toList_toArray]
     have hkl : (ns.filter fun x => !p x).length ≤ len := hnl ▸ List.length_filter_le _ _
     generalize (ns.filter fun x => !p x) = ks at *
     obtain ⟨new, hnew⟩ : ∃ new, new = ks ++ List.replicate (len - ks.length) 0 := ⟨_, rfl⟩
     rw [← hnew]
     have hnwl : new.length = len := by rw [hnew, List.length_append, List.length_replicate]; omega
     obtain ⟨fr, hw0, hfr⟩ := m1
     have hBlt : B < w.heap.size := (Array.getElem?_eq_some_iff.1 hw0).1
     have hnl2 : (cs.take off ++ new.map i64A ++ cs.drop (off + len)).length = cs.length := by simp; omega
     have hone' : (cs.take off ++ new.map i64A ++ cs.drop (off + len)).all AV.one = true := by
      rw [List.all_append, List.all_append, Bool.and_eq_true, Bool.and_eq_true]
      refine ⟨⟨List.all_eq_true.2 fun c hc => List.all_eq_true.1 hone c (List.mem_of_mem_take hc), ?_⟩, List.all_eq_true.2 fun c hc => List.all_eq_true.1 hone c (List.mem_of_mem_drop hc)⟩
      rw [List.all_map, List.all_eq_true]; intro x _; rfl
     obtain ⟨arr', harr'⟩ : ∃ arr' : List Value, arr' = (Go.Sort.putCells (Value.int .i64) off new.toArray arr.toArray).toList := ⟨_, rfl⟩
     have hal : arr'.length = arr.length := by rw [harr']; simp [Go.Sort.putCells]
     have hget : ∀ k, arr'[k]? = (arr[k]?).map fun x => if off ≤ k ∧ k < off + len then Value.int .i64 (new.getD (k - off) 0) else x := by
      intro k
      rw [harr', Array.getElem?_toList]
      simp only [Go.Sort.putCells, Array.getElem?_mapIdx, List.getElem?_toArray, List.size_toArray, hnwl]
      cases hk : arr[k]? with
      | none => rfl
      | some x =>
       simp only [Option.map_some]
       split
       ·rename_i hin
        have hkl : k - off < new.toArray.size := by simp; omega
        rw [getElem!_pos new.toArray (k - off) hkl, xgD, xgE (by simpa using hkl)]
        simp
       ·rfl
     have hover := hS.over (w' := Go.Sort.putRow (Value.int .i64) (Go.Sort.ahead w q) B off new.toArray) (cs' := cs.take off ++ new.map i64A ++ cs.drop (off + len)) (arr' := arr') (t := ta) hj hne hpl (plainRow_one hone') hB
      (by rw [Go.Sort.size_putRow]; rfl)
      (fun b hb hbB => by
       unfold Go.Sort.putRow Go.Sort.mapBlock
       simp only [Array.getElem?_modify]
       rw [if_neg (fun e => hbB e.symm)]
       rfl)
      ⟨fr, by
       unfold Go.Sort.putRow Go.Sort.mapBlock
       simp only [Array.getElem?_modify, if_pos]
       show (w.heap[B]?).map _ = _
       rw [hw0, Option.map_some, harr']
       rfl, by rw [hal]; exact hfr⟩
      ⟨rfl, rfl, rfl⟩ (by rw [hnl2]; exact hS.rm j cs B hj hpl hB) (by rw [hal]; exact m3)
      (fun k c hk => by
       rw [xgD, hget k]
       rcases Nat.lt_or_ge k off with h1 | h1
       ·have hkc : cs[k]? = some c := by
         rw [List.append_assoc, xgL (by simp; omega), List.getElem?_take, if_pos h1] at hk
         exact hk
        have := m4 k c hkc
        rw [xgD] at this
        have hka : k < arr.length := by have := (xgI.1 hkc).1; omega
        rw [xgE hka] at this ⊢
        rw [Option.map_some, if_neg (by omega)]
        exact this
       ·rcases Nat.lt_or_ge k (off + len) with h2 | h2
        ·have hkc : c = i64A (new.getD (k - off) 0) := by
          rw [List.append_assoc, xgR (by simp; omega), xgL (by simp; omega), List.getElem?_map] at hk
          rw [show (List.take off cs).length = off by simp; omega] at hk
          rw [xgE (by omega)] at hk
          injection hk with hk
          rw [← hk, xgD, xgE (by omega)]; rfl
         rw [xgE (show k < arr.length by omega), Option.map_some, if_pos ⟨h1, h2⟩, hkc]
         exact .sc _ rfl
        ·have hkc : cs[k]? = some c := by
          rw [xgR (by simp; omega), List.getElem?_drop] at hk
          rw [show off + len + (k - (List.take off cs ++ List.map i64A new).length) = k by simp; omega] at hk
          exact hk
         have := m4 k c hkc
         rw [xgD] at this
         have hka : k < arr.length := by have := (xgI.1 hkc).1; omega
         rw [xgE hka] at this ⊢
         rw [Option.map_some, if_neg (by omega)]
         exact this)
     obtain ⟨hS', hgo⟩ := hover
     refine ⟨_, F, L, rfl, ?_, hS', hgo.weaken (fun _ _ h => h.elim), by simp, by simp⟩
     split
     ·rename_i hk0
      rw [hk0]
      exact .sl0 _ _ (by simp)
     ·exact .mr j off _ 1 cap B false hB (by omega) (by omega) hroom hxx
   | [], h => simp at h
   | [_], h => simp at h
   | _ :: _ :: _ :: _, h => simp at h
  ·cases h
 ·rename_i g'
  split at h
  ·rename_i hg
   subst hg
   injection h with h; injection h with h1 h2; subst h1 h2
   match vs, hvl with
   | [v1, v2], _ =>
    have r1 : Rel F L (.sl []) v1 := hrel 0 _ rfl
    have r2 : Rel F L (.fn g' []) v2 := hrel 1 _ rfl
    cases r2 with
    | fn _ _ arr2 hl2 _ =>
    have ha2 : arr2 = [] := List.eq_nil_of_length_eq_zero (by simpa using hl2)
    subst ha2
    obtain ⟨a, cap, rfl⟩ : ∃ a cap, v1 = .slice a 0 cap := by
     cases r1 with
     | sl0 a cap _ => exact ⟨a, cap, rfl⟩
     | sl _ _ _ _ _ _ _ hl h0 => simp at hl; omega
    refine (hn w a cap).mono ?_
    rintro e w' ⟨rfl, rfl⟩
    exact ⟨_, F, L, rfl, r1, hS, (Goes.refl _ F L w').weaken (fun _ _ h => h), by simp, by simp⟩
   | [], h => simp at h
   | [_], h => simp at h
   | _ :: _ :: _ :: _, h => simp at h
  ·cases h
 ·cases h
end
end Go.Lv
set_option linter.unusedVariables false
set_option linter.unusedSimpArgs false
namespace Go.Lv
open Go.RowKit (Below)
section
variable {P : Program} {F : Facts} {L : List Nat} {w : World} {H : Heap}
theorem St.addRow (hS : St P F L NX w H) {B r : Nat} {cs : List AV} {arr : List Value} {t : TypeId} (hw : w.heap[B]? = some (.cells arr.toArray t (0, 0))) (hB : B ∉ L) (hr : r ≤ arr.length) (hr0 : F.room B = 0) (hcr : cs.length ≤ r) (hmc : isMv cs = false) (hcl : ∀ (k : Nat) c, cs[k]? = some c → Rel F L c (arr.getD k undef)) (hf : ∀ i, F B i = none)
  {Fx : Facts} {Lx : List Nat} {wx : World} (hgo : Goes (fun _ => False) Fx Lx wx F L w) (hBx : wx.heap.size ≤ B) :
  ∃ F' : Facts, F'.get = F.get ∧ F'.room B = r ∧ St P F' (L ++ [B]) NX w (H ++ [cs]) ∧ Goes (fun _ => False) Fx Lx wx F' (L ++ [B]) w := by
 obtain ⟨F', hFg, hFr⟩ : ∃ F' : Facts, F'.get = F.get ∧ ∀ b, F'.room b = if b = B then r else F.room b := ⟨⟨F.get, fun b => if b = B then r else F.room b⟩, rfl, fun _ => rfl⟩
 have hget : ∀ b i, F' b i = F b i := fun b i => by rw [hFg]
 have hBlt : B < w.heap.size := (Array.getElem?_eq_some_iff.1 hw).1
 have hrm : ∀ b, F.room b ≤ F'.room b := by
  intro b
  rw [hFr]
  split
  ·rename_i h; subst h; omega
  ·exact Nat.le_refl _
 have hpre : ∀ (j b : Nat), L[j]? = some b → (L ++ [B])[j]? = some b := by
  intro j b h
  rw [xgL (xgI.1 h).1]
  exact h
 have hmono : ∀ {a v}, Rel F L a v → Rel F' (L ++ [B]) a v := fun h => h.mono (fun b i v h => by rw [hget]; exact h) hrm hpre
 have hgo' : Goes (fun _ => False) Fx Lx wx F' (L ++ [B]) w :=
  ⟨hgo.size, fun b hb hg hL => ⟨(hgo.keep b hb hg hL).1, fun i => by rw [hget]; exact (hgo.keep b hb hg hL).2 i⟩, fun b i v h => by rw [hget]; exact hgo.mono _ _ _ h, fun j b h => hpre _ _ (hgo.pre _ _ h),
   fun b hb => by
    rcases List.mem_append.1 hb with h | h
    ·exact hgo.newL b h
    ·simp at h; subst h; exact .inr hBx, hgo.rest, fun b => Nat.le_trans (hgo.room b) (hrm b)⟩
 have old : ∀ (j : Nat) cs' b, (H ++ [cs])[j]? = some cs' → (L ++ [B])[j]? = some b → (H[j]? = some cs' ∧ L[j]? = some b ∧ b ≠ B) ∨ (j = L.length ∧ cs' = cs ∧ b = B) := by
  intro j cs' b hj hb
  rcases Nat.lt_or_ge j L.length with hjl | hjl
  ·rw [xgL hjl] at hb
   rw [xgL (hS.len ▸ hjl)] at hj
   exact .inl ⟨hj, hb, fun e => hB (e ▸ mem_of_get hb)⟩
  ·rw [xgR hjl] at hb
   rw [xgR (hS.len ▸ hjl)] at hj
   have h0 : j - L.length = 0 := by
    have := (xgI.1 hb).1
    simp at this
    omega
   rw [h0] at hb
   rw [← hS.len, h0] at hj
   simp at hb hj
   exact .inr ⟨by omega, hj.symm, hb.symm⟩
 refine ⟨F', hFg, by rw [hFr, if_pos rfl], ⟨fun b i v h => ?_, by simp [hS.len], fun j cs' b hj hne hmv hb => ?_, fun b hb => ?_, fun j cs' b hj hne hb i hi => ?_, fun b hb => by simp [NX], fun i j cs1 cs2 b hi hn1 hj hn2 hBi hBj => ?_, fun b hb => by simp [NX] at hb, fun b hb => ?_, fun j ks vs b hj hb => ?_, fun j cs' b hj hpl' hb => by
  rcases old j cs' b hj hb with ⟨k1, k2, k3⟩ | ⟨k1, rfl, rfl⟩
  ·exact Nat.le_trans (hS.rm j cs' b k1 hpl' k2) (hrm b)
  ·rw [hFr, if_pos rfl]; exact hcr⟩, hgo'⟩
 ·rw [hget] at h; exact hS.mem _ _ _ h
 ·rcases old j cs' b hj hb with ⟨k1, k2, k3⟩ | ⟨k1, rfl, rfl⟩
  ·obtain ⟨arr', t', m1, m2, m3, m4⟩ := hS.obj j cs' b k1 hne hmv k2
   exact ⟨arr', t', m1, m2, by rw [hFr, if_neg k3]; exact m3, fun k c hk => hmono (m4 k c hk)⟩
  ·exact ⟨arr, t, .new hw, Nat.le_trans hcr hr, by rw [hFr, if_pos rfl]; exact hr, fun k c hk => hmono (hcl k c hk)⟩
 ·rcases List.mem_append.1 hb with h | h
  ·exact hS.lt b h
  ·simp at h; subst h; exact hBlt
 ·rw [hget]
  rcases old j cs' b hj hb with ⟨k1, k2, k3⟩ | ⟨k1, rfl, rfl⟩
  ·exact hS.nof j cs' b k1 hne k2 i hi
  ·exact hf i
 ·rcases old i cs1 b hi hBi with ⟨k1, k2, k3⟩ | ⟨k1, k2, k3⟩ <;> rcases old j cs2 b hj hBj with ⟨m1, m2, m3⟩ | ⟨m1, m2, m3⟩
  ·exact hS.inj i j cs1 cs2 b k1 hn1 m1 hn2 k2 m2
  ·exact absurd m3 k3
  ·exact absurd k3 m3
  ·omega
 ·rw [hFr, if_neg (by omega)]
  exact hS.room0 b hb
 ·rcases old j _ b hj hb with ⟨k1, k2, k3⟩ | ⟨k1, k2, k3⟩
  ·obtain ⟨es, fs, clk, m1, mst, mpm, m2, m3, m4, m5⟩ := hS.mob j ks vs b k1 k2
   refine ⟨es, fs, clk, m1, mst, mpm, m2, m3, fun i k hk => ?_, fun i v hv => ?_⟩
   ·obtain ⟨e, he, hr⟩ := m4 i k hk
    exact ⟨e, he, hmono hr⟩
   ·obtain ⟨e, he, hr⟩ := m5 i v hv
    exact ⟨e, he, hmono hr⟩
  ·rw [← k2] at hmc; cases hmc
end
end Go.Lv
set_option linter.unusedVariables false
set_option linter.unusedSimpArgs false
namespace Go
theorem wpList_append_zero {P : Program} {w : World} {ops : Array Oper} {rest : List Oper} {o : Oper} {a : Act} {Q : Exit → Act → World → Prop} (hgd : o.guard = none) (s x : Operand) (t tx : TypeId)
  (ho : o.op = .call { callee := .builtin .append, args := #[s, x], argTypes := #[t, tx] })
  (e : TypeId) (i : TypeInfo) (ht : P.underlying t = some (.slice e)) (hi : P.info? e = some i)
  (base : Option Addr) (n c : Nat) (hle : n ≤ c) (hs : a.eval s = .slice base n c) {xv : Value} (hx : a.eval x = xv) (hsrc : Src P i.size tx xv 0 [] w)
  (h : wpList P ops Q rest (a.put o.dst (.slice base n c)) w) : wpList P ops Q (o :: rest) a w := by
 refine wpList_plain hgd fun K hK => ?_
 have hrun := run_append_nothing (P := P) (ty := o.type) w t tx e i ht hi base n c hle xv hsrc
 unfold Oper.wp
 simp [execOp, ho, resolve, invoke, builtin, hs, hx, hrun, Result.andThen]
 exact hK _ _ h
end Go
namespace Go.Lv
open Go.Proofs Go.Shelf
open Go.RowKit Go.Lib
section
variable {P : Program} {F : Facts} {L : List Nat} {w : World} {H : Heap}
set_option maxHeartbeats 2000000 in
set_option maxRecDepth 100000 in
theorem clone_empty0 {ρ : Ren} (L : SlLaysE0.n41 P ρ) (i0 : TypeInfo) (hi : P.info? (ρ.t 23) = some i0) (z23 : ∀ w, (Go.sizeOf (ρ.t 23)).run P w = .ok 1 w) (a : Addr) (c : Nat) (w : World) :
  Calls P (ρ.f 41) #[.slice (some a) 0 c] w fun e w' => ∃ a', e = .returned (.slice a' 0 0) ∧ Below w.heap.size w w' := by
 have mixed := L.mixed; have t4 := L.t4; have a4 := L.a4; have z4 := L.z4; have v4 := L.v4; have t22 := L.t22; have a22 := L.a22; have z22 := L.z22; have v22 := L.v22
 have q22 : ∀ (w : World) (a : Option Addr) (n c n' c' : Nat), (binOp .eql (ρ.t 22) (.slice a n c) (.slice none n' c')).run P w = .ok (.bool a.isNone) w := fun w a n c n' c' => Lib.run_eql_slice_nil w _ _ a n c n' c' L.t22
 have u22 : ∀ w, Sem.run P (underlying (ρ.t 22)) w = .ok (TypeDesc.slice (ρ.t 23)) w := run_underlying t22
 have hsrc : ∀ w, Src P i0.size (ρ.t 22) (.slice (some a) 0 c) 0 [] w := fun w => ⟨.inl ⟨_, t22⟩, fun _ => rfl, run_firstCells_some w i0.size 0 a 0 c [] (by simp) (by simp), run_firstCells_some w.drew i0.size 0 a 0 c [] (by simp) (by simp), by simp, by simp⟩
 obtain ⟨_, _, FG⟩ := L.f41
 go_enter FG, SlBodyN.n41_ntmps ρ
 go_wp2_with (at_builtin; refine wpList_append_zero rfl _ _ (ρ.t 22) (ρ.t 22) rfl (ρ.t 23) i0 t22 hi _ 0 0 (Nat.le_refl _) rfl rfl (hsrc _) ?_)
 go_wp2
 go_ret
 exact ⟨_, rfl, (Below.refl _ w).alloc (Nat.le_refl _) _⟩
theorem clone_endR {t : TypeId} {cs : List AV} {news vs : List Value} {v' : Value} {w' : World} (hS : St P F L NX w H) (hl : news.length = cs.length) (hr : ∀ (k : Nat) c, cs[k]? = some c → Rel F L c (news.getD k undef)) (hone : cs.all AV.one = true) (h0 : 0 < cs.length) (ho : w'.ownsRow w.heap.size t 1 v' cs.length news) (hb : Below w.heap.size w w') :
  ∃ F' L', Ret P {} F L w vs (.mr H.length 0 cs.length 1 false) (H ++ [cs]) v' F' L' w' := by
 obtain ⟨hS1, hg1⟩ := hS.below hb
 obtain ⟨_, ho⟩ := ho
 rcases ho with ⟨rfl, h00⟩ | ⟨g, cap, cur, rfl, hbg, hw, hnc, hcm, hsz, htk⟩
 ·omega
 ·have hgL : g ∉ L := fun h => by have := hS.lt g h; omega
  have hgF : ∀ i, F g i = none := fun i => by
   cases h : F g i with
   | none => rfl
   | some v => have := hS.ltF h; omega
  have hw2 : w'.heap[g]? = some (.cells (List.toArray cur.toList) t (0, 0)) := by simpa using hw
  have hcs : cur.toList.length = cap := by rw [Array.length_toList, hsz, Nat.mul_one]
  obtain ⟨F', f1, f2, hS3, hg3⟩ := hS1.addRow (cs := cs) (r := cap) hw2 hgL (by omega) (hS.room0 g hbg) (by omega) (plainRow_spec (plainRow_one hone)).1 (fun k c hk => by
   have hkl := (xgI.1 hk).1
   have h2 : (cur.toList.take (cs.length * 1))[k]? = news[k]? := by rw [htk]
   rw [List.getElem?_take, if_pos (by omega)] at h2
   rw [xgD, h2, ← xgD]
   exact (hr k c hk).goes hg1) hgF hg1 hbg
  refine ⟨F', _, ?_, hS3, hg3.weaken (fun _ _ h => h.elim), by simp, by simp⟩
  refine .mr _ 0 _ 1 cap g false ?_ hnc (by omega) ?_ ?_
  ·rw [← hS.len, xgR (Nat.le_refl _), Nat.sub_self]; rfl
  ·rw [f2]; omega
  ·have : maxLen ≤ 9223372036854775807 := by unfold maxLen; omega
   omega
theorem flat_one {xs : List AV} (h : xs.all AV.one = true) : xs.flatMap AV.cells = xs := by
 induction xs with
 | nil => rfl
 | cons x xs ih =>
  rw [List.all_cons, Bool.and_eq_true] at h
  rw [List.flatMap_cons, ih h.2]
  have : x.cells = [x] := by
   cases x <;> first | rfl | simp [AV.one] at h
  rw [this]; rfl
theorem cells_of1 {x : AV} (h : x.one = true) : x.cells = [x] := by cases x <;> first | rfl | simp [AV.one] at h
def cloneM (by_ : Nat) (H : Heap) : List AV → Option (AV × Heap)
 | [.v (.slice none 0 0)] => some (.ow [] 0, H)
 | [.ow [] _] => some (.ow [] 0, H)
 | [.sl xs] => if xs.length = 0 then some (.ow [] 0, H) else if xs.length * by_ ≤ 140737488355328 ∧ xs.length ≤ 140737488355328 ∧ xs.all AV.one = true then some (.mr H.length 0 xs.length 1 false, H ++ [xs]) else none
 | [.mr j off len 1 false] => (H[j]?).bind fun cs => if 0 < len ∧ off + len ≤ cs.length ∧ cs.all AV.one = true ∧ len * by_ ≤ 140737488355328 ∧ len ≤ 140737488355328 then some (.mr H.length 0 len 1 false, H ++ [(cs.drop off).take len]) else none
 | _ => none
theorem cloneM_ok {ρ : Ren} {by_ : Nat} (hL : SlLaysE0.n41 P ρ) {z : Value} (hi : (P.info? (ρ.t 23)).map (fun i => (i.zero, i.size, i.bytes)) = some (some z, 1, by_)) (hzs : z.cells.size = 1)
  {args : List AV} {r : AV} {H' : Heap} (h : cloneM by_ H args = some (r, H')) : CallOK P {} (ρ.f 41) args H r H' := by
 intro F L w vs hS hvl hrel hown hglob
 obtain ⟨i0, hi, hz⟩ := xoM.1 hi
 injection hz with hz0 hz; injection hz with hz1 hz2
 have z23 : ∀ w, (Go.sizeOf (ρ.t 23)).run P w = .ok 1 w := fun w => by simp [Go.sizeOf, typeInfo, hi, hz1]
 have none_ : ∀ (a : Option Addr) (c : Nat), Calls P (ρ.f 41) #[.slice a 0 c] w (fun e w' => ∃ v F' L', e = .returned v ∧ Ret P {} F L w vs (.ow [] 0) H v F' L' w') := by
  intro a c
  cases a with
  | none =>
   refine (AnyE.slices_Clone_nil hL 0 c w).mono ?_
   rintro e w' ⟨rfl, rfl⟩
   exact ⟨_, F, L, rfl, .ow0 0 none, hS, (Goes.refl _ F L w').weaken (fun _ _ h => h), by simp, by simp⟩
  | some a =>
   refine (clone_empty0 hL i0 hi z23 a c w).mono ?_
   rintro e w' ⟨a', rfl, hb⟩
   obtain ⟨hS1, hg1⟩ := hS.below hb
   exact ⟨_, F, L, rfl, .ow0 0 a', hS1, hg1.weaken (fun _ _ h => h.elim), by simp, by simp⟩
 have pos : ∀ (cs : List AV) (news : List Value) (B o cap : Nat), cs.length * by_ ≤ 140737488355328 → cs.length ≤ 140737488355328 → cs.all AV.one = true → 0 < cs.length → news.length = cs.length → (∀ (k : Nat) c, cs[k]? = some c → Rel F L c (news.getD k undef)) →
   (∀ j u, news[j]? = some u → w.cell? ⟨B, o + j, none⟩ = some u) →
   Calls P (ρ.f 41) #[.slice (some ⟨B, o, none⟩) cs.length cap] w (fun e w' => ∃ v F' L', e = .returned v ∧ Ret P {} F L w vs (.mr H.length 0 cs.length 1 false) (H ++ [cs]) v F' L' w') := by
  intro cs news B o cap c1 c2 hone h0 hl hr hc
  have hones : ∀ u ∈ news, u.oneCell' = true := by
   intro u hu
   obtain ⟨k, hk, rfl⟩ := List.getElem_of_mem hu
   have := (hr k _ (xgE (by omega))).one (List.all_eq_true.1 hone _ (List.getElem_mem _))
   rw [xgD, xgE hk] at this
   exact this
  refine (AnyE.slices_Clone hL i0 z 1 by_ hi hz0 hz1 hz2 hzs (by omega) z23 B o cs.length cap news w (by omega) (by unfold maxLen; omega) c1 hc hones).mono ?_
  rintro e w' ⟨v', rfl, ho, hne, hb⟩
  obtain ⟨F', L', hR⟩ := clone_endR (vs := vs) hS hl hr hone h0 ho hb
  exact ⟨v', F', L', rfl, hR⟩
 have one : ∀ (a : AV), args = [a] → ∃ v, vs = [v] := by
  intro a ha
  rw [ha] at hvl
  match vs, hvl with
  | [v], _ => exact ⟨v, rfl⟩
 unfold cloneM at h
 split at h
 ·injection h with h; injection h with h1 h2; subst h1 h2
  obtain ⟨v, rfl⟩ := one _ rfl
  have r0 : Rel F L _ v := hrel 0 _ rfl
  obtain ⟨e, _⟩ := r0.v_eq
  subst e
  exact none_ none 0
 ·injection h with h; injection h with h1 h2; subst h1 h2
  obtain ⟨v, rfl⟩ := one _ rfl
  have r0 : Rel F L _ v := hrel 0 _ rfl
  cases r0 with
  | ow _ _ B len cap sz vals h hl h0 hc hs hnn hf hr hm hx => simp at hl; omega
  | ow0 _ a => exact none_ a 0
 ·rename_i xs
  obtain ⟨v, rfl⟩ := one _ rfl
  have r0 : Rel F L (.sl xs) v := hrel 0 _ rfl
  split at h
  ·rename_i h0
   injection h with h; injection h with h1 h2; subst h1 h2
   have : xs = [] := List.eq_nil_of_length_eq_zero h0
   subst this
   cases r0 with
   | sl0 a cap ha => exact none_ a cap
   | sl _ _ _ _ _ _ _ hl h0' => simp at hl; omega
  ·rename_i h0
   split at h
   ·rename_i hc
    obtain ⟨c1, c2, c3⟩ := hc
    injection h with h; injection h with h1 h2; subst h1 h2
    have hone : ∀ a ∈ xs, a.cells.length = 1 := fun a ha => by rw [cells_of1 (List.all_eq_true.1 c3 a ha)]; rfl
    obtain ⟨ad, cap, news, rfl, hcap, hnone, hrow, hone1, hF⟩ := r0.row hS (n := 1) hone
    have hnw := hrow.len
    obtain ⟨B, o, rfl, hf⟩ := hF (by intro he; rw [he] at hnw; simp at hnw; omega)
    refine pos xs news B o cap c1 c2 c3 (by omega) (by omega) (fun k c hk => ?_) (fun j u hu => (hS.mem _ _ _ (hf j u hu)).1)
    have hk1 : c.cells[0]? = some c := by rw [cells_of1 (List.all_eq_true.1 c3 c (List.mem_of_getElem? hk))]; rfl
    have := hrow.rel k c 0 c hk hk1
    rwa [Nat.mul_one, Nat.add_zero] at this
   ·cases h
 ·rename_i j off len
  obtain ⟨v, rfl⟩ := one _ rfl
  have r0 : Rel F L _ v := hrel 0 _ rfl
  obtain ⟨cs, hj, hh⟩ := xoB.1 h
  clear h
  split at hh
  ·rename_i hc
   obtain ⟨h0, hle, hone, c1, c2⟩ := hc
   injection hh with hh; injection hh with h1 h2; subst h1 h2
   cases r0 with
   | mr _ _ _ _ cap B _ hB hcap hn0 hroom hxx =>
    have hne : cs ≠ [] := fun e => by rw [e] at hle; simp at hle; omega
    obtain ⟨arr, ta, m1, m2, m3, m4⟩ := hS.obj j cs B hj hne (plainRow_spec (plainRow_one hone)).1 hB
    have hcl : ((cs.drop off).take len).length = len := by simp; omega
    have := pos ((cs.drop off).take len) ((arr.drop off).take len) B off cap (by rw [hcl]; exact c1) (by rw [hcl]; exact c2)
     (List.all_eq_true.2 fun c hc => List.all_eq_true.1 hone c (List.mem_of_mem_drop (List.mem_of_mem_take hc))) (by omega) (by rw [hcl]; simp; omega)
     (fun k c hk => by
      have hkl : k < len := hcl ▸ (xgI.1 hk).1
      rw [List.getElem?_take, if_pos hkl, List.getElem?_drop] at hk
      have := m4 _ c hk
      rw [xgD] at this ⊢
      rw [List.getElem?_take, if_pos hkl, List.getElem?_drop]
      exact this)
     (fun k u hu => by
      have hkl : k < len := by
       have := (xgI.1 hu).1
       simp at this; omega
      rw [List.getElem?_take, if_pos hkl, List.getElem?_drop] at hu
      rw [m1.cell]; exact hu)
    rw [hcl] at this
    exact this
  ·cases hh
 ·cases h
end
end Go.Lv
