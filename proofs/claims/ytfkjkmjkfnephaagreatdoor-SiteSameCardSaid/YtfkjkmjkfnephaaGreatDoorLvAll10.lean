/- A value semantics of the loaded code, its soundness, and walks through functions over it. -/
import Derived.Test.YtfkjkmjkfnephaaGreatDoorLvAll9
import Derived.Shelf.Bytes.SlClone
import Derived.Shelf.SlicesE.Clone
import Derived.Test.YtfkjkmjkfnephaaGreatDoorLvAll6
import Derived.Test.YtfkjkmjkfnephaaGreatDoorLvAll8
set_option linter.unusedVariables false
set_option linter.unusedSimpArgs false
namespace Go.Lv
open Go.Proofs Go.Shelf
open Go.RowKit Go.Lib
section
variable {P : Program} {F : Facts} {L : List Nat} {w : World} {H : Heap}
def u8s : List AV → Option (List Int)
 | [] => some []
 | .v (.int .u8 n) :: r => (u8s r).map (n :: ·)
 | _ => none
def cloneB (H : Heap) : List AV → Option (AV × Heap)
 | [.sl xs] => (u8s xs).bind fun _ => if xs.length ≤ 140737488355328 then some (.sl xs, H) else none
 | [.mr j off len 1 false] => (H[j]?).bind fun cs => (u8s ((cs.drop off).take len)).bind fun _ => if off + len ≤ cs.length ∧ 0 < len ∧ len ≤ 140737488355328 ∧ isMv cs = false then some (.sl ((cs.drop off).take len), H) else none
 | _ => none
def cloneT (n by_ : Nat) (H : Heap) : List AV → Option (AV × Heap)
 | [.v (.slice none 0 0)] => some (.v (.slice none 0 0), H)
 | [.sl xs] => if xs.length * by_ ≤ 140737488355328 ∧ xs.length ≤ 140737488355328 ∧ (∀ a ∈ xs, a.cells.length = n) ∧ 0 < n then
   (if 0 < xs.length then some (.ow xs H.length, H ++ [[.tk (xs.length * n)]]) else some (.sl [], H)) else none
 | [.ow xs _] => if xs.length * by_ ≤ 140737488355328 ∧ xs.length ≤ 140737488355328 ∧ (∀ a ∈ xs, a.cells.length = n) ∧ 0 < n ∧ 0 < xs.length then some (.ow xs H.length, H ++ [[.tk (xs.length * n)]]) else none
 | _ => none
set_option maxHeartbeats 2000000 in
set_option maxRecDepth 100000 in
theorem clone_empty {ρ : Ren} (L : SlLaysE0.n41 P ρ) (i0 : TypeInfo) (z : Value) (size bytes : Nat) (hi : P.info? (ρ.t 23) = some i0) (hz0 : i0.zero = some z) (hz1 : i0.size = size) (hz2 : i0.bytes = bytes) (hzs : z.cells.size = size) (hsz : 0 < size)
  (z23 : ∀ w, (Go.sizeOf (ρ.t 23)).run P w = .ok size w) (a : Addr) (c : Nat) (w : World) :
  Calls P (ρ.f 41) #[.slice (some a) 0 c] w fun e w' => ∃ v', e = .returned v' ∧ w'.ownsRow w.heap.size (ρ.t 23) size v' 0 [] ∧ Below w.heap.size w w' := by
 have mixed := L.mixed; have t4 := L.t4; have a4 := L.a4; have z4 := L.z4; have v4 := L.v4; have t22 := L.t22; have a22 := L.a22; have z22 := L.z22; have v22 := L.v22
 have q22 : ∀ (w : World) (a : Option Addr) (n c n' c' : Nat), (binOp .eql (ρ.t 22) (.slice a n c) (.slice none n' c')).run P w = .ok (.bool a.isNone) w := fun w a n c n' c' => Lib.run_eql_slice_nil w _ _ a n c n' c' L.t22
 have u22 : ∀ w, Sem.run P (underlying (ρ.t 22)) w = .ok (TypeDesc.slice (ρ.t 23)) w := run_underlying t22
 obtain ⟨_, _, FG⟩ := L.f41
 go_enter FG, SlBodyN.n41_ntmps ρ
 go_wp2_with (at_builtin; refine wpList_append_own _ rfl _ _ (ρ.t 22) rfl w.heap.size (ρ.t 23) i0 z size bytes t22 hi hz0 hz1 hz2 hzs hsz _ _ _ rfl (World.ownsRow_made w #[] 0 (Nat.le_refl _) (Nat.zero_le _) (by simp)) a 0 c [] rfl (by simp) (by simp) (by simp) (by simp) (by simp) (by simp) ?_)
 intro v' w1 hown hgrow hnil
 go_wp2
 go_ret
 refine ⟨v', rfl, by simpa using hown, ?_⟩
 exact ((Below.refl _ w).alloc (Nat.le_refl _) _).grown hgrow (by simp) (by intro k hk; simp [Value.ownBlock] at hk; omega)
theorem cloneT_ok {ρ : Ren} {n by_ : Nat} (hL : SlLaysE0.n41 P ρ) {z : Value} (hi : (P.info? (ρ.t 23)).map (fun i => (i.zero, i.size, i.bytes)) = some (some z, n, by_)) (hzs : z.cells.size = n)
  {args : List AV} {r : AV} {H' : Heap} (h : cloneT n by_ H args = some (r, H')) : CallOK P {} (ρ.f 41) args H r H' := by
 intro F L w vs hS hvl hrel hown hglob
 obtain ⟨i0, hi, hz⟩ := xoM.1 hi
 injection hz with hz0 hz; injection hz with hz1 hz2
 have z23 : ∀ w, (Go.sizeOf (ρ.t 23)).run P w = .ok n w := fun w => by simp [Go.sizeOf, typeInfo, hi, hz1]
 have nil_ : ∀ (c : Nat) (a : AV), a = .sl [] ∨ a = .v (.slice none 0 0) → Calls P (ρ.f 41) #[.slice none 0 c] w (fun e w' => ∃ v F' L', e = .returned v ∧ Ret P {} F L w vs a H v F' L' w') := by
  intro c a ha
  refine (AnyE.slices_Clone_nil hL 0 c w).mono ?_
  rintro e w' ⟨rfl, rfl⟩
  refine ⟨_, F, L, rfl, ?_, hS, (Goes.refl _ F L w').weaken (fun _ _ h => h), by simp, by simp⟩
  rcases ha with rfl | rfl
  ·exact .sl0 none 0 (fun _ => rfl)
  ·exact .sc _ rfl
 have pos : ∀ (xs : List AV) (v : Value), 0 < n → xs.length * by_ ≤ 140737488355328 → xs.length ≤ 140737488355328 → (∀ a ∈ xs, a.cells.length = n) → 0 < xs.length → Rel F L (.sl xs) v →
   Calls P (ρ.f 41) #[v] w (fun e w' => ∃ v F' L', e = .returned v ∧ Ret P {} F L w vs (.ow xs H.length) (H ++ [[.tk (xs.length * n)]]) v F' L' w') := by
  intro xs v hn c1 c2 c3 c4 r0
  obtain ⟨ad, cap, news, rfl, hcap, hnone, hrow, hone, hF⟩ := r0.row hS c3
  have hnw := hrow.len
  have hpos : 0 < xs.length * n := Nat.mul_pos c4 hn
  obtain ⟨B, o, rfl, hf⟩ := hF (by intro he; rw [he] at hnw; simp at hnw; omega)
  refine (AnyE.slices_Clone hL i0 z n by_ hi hz0 hz1 hz2 hzs hn z23 B o xs.length cap news w hnw (by unfold maxLen; omega) c1 (fun j u hu => (hS.mem _ _ _ (hf j u hu)).1) hone).mono ?_
  rintro e w' ⟨v', rfl, ho, hne, hb⟩
  obtain ⟨F', L', hR⟩ := clone_endT (vs := vs) hS hrow hone hn c4 ho hb
  have hR' := hR
  exact ⟨v', F', L', rfl, hR⟩
 have one : ∀ (a : AV), args = [a] → ∃ v, vs = [v] := by
  intro a ha
  rw [ha] at hvl
  match vs, hvl with
  | [v], _ => exact ⟨v, rfl⟩
 unfold cloneT at h
 split at h
 ·injection h with h; injection h with h1 h2; subst h1 h2
  obtain ⟨v, rfl⟩ := one _ rfl
  have r0 : Rel F L _ v := hrel 0 _ rfl
  obtain ⟨e, _⟩ := r0.v_eq
  subst e
  exact nil_ 0 _ (.inr rfl)
 ·rename_i xs
  obtain ⟨v, rfl⟩ := one _ rfl
  have r0 : Rel F L _ v := hrel 0 _ rfl
  split at h
  ·rename_i hc
   obtain ⟨c1, c2, c3, c4⟩ := hc
   split at h
   ·rename_i h0
    injection h with h; injection h with h1 h2; subst h1 h2
    exact pos xs v c4 c1 c2 c3 h0 r0
   ·rename_i h0
    injection h with h; injection h with h1 h2; subst h1 h2
    have : xs = [] := List.eq_nil_of_length_eq_zero (by omega)
    subst this
    cases r0 with
    | sl0 a cap ha =>
     cases a with
     | none => exact nil_ cap _ (.inl rfl)
     | some a =>
      refine (clone_empty hL i0 z n by_ hi hz0 hz1 hz2 hzs c4 z23 a cap w).mono ?_
      rintro e w' ⟨v', rfl, ho, hb⟩
      obtain ⟨hS1, hg1⟩ := hS.below hb
      refine ⟨v', F, L, rfl, ?_, hS1, hg1.weaken (fun _ _ h => h.elim), by simp, by simp⟩
      rcases ho.2 with ⟨rfl, _⟩ | ⟨g, cap, cur, rfl, _⟩
      ·exact .sl0 none 0 (fun _ => rfl)
      ·exact .sl0 _ _ (by simp)
    | sl _ _ _ _ _ _ _ hl h0' => simp at hl; omega
  ·cases h
 ·rename_i xs j
  obtain ⟨v, rfl⟩ := one _ rfl
  have r0 : Rel F L _ v := hrel 0 _ rfl
  split at h
  ·rename_i hc
   obtain ⟨c1, c2, c3, c4, c5⟩ := hc
   injection h with h; injection h with h1 h2; subst h1 h2
   exact pos xs v c4 c1 c2 c3 c5 r0.owA
  ·cases h
 ·cases h
end
end Go.Lv
set_option linter.unusedVariables false
set_option linter.unusedSimpArgs false
namespace Go.Lv
inductive VTr where
 | leaf
 | node (a : AV) (l r : VTr)
def VTr.get : VTr → Nat → AV
 | .leaf, _ => .un
 | .node a l r, n => match n with
  | 0 => a
  | m + 1 => bif Nat.beq (m % 2) 0 then l.get (m / 2) else r.get (m / 2)
def VTr.set : Nat → VTr → Nat → AV → Option VTr
 | 0, _, _, _ => none
 | k + 1, t, n, x =>
  let (a, l, r) := match t with | .leaf => (AV.un, VTr.leaf, VTr.leaf) | .node a l r => (a, l, r)
  match n with
  | 0 => some (.node x l r)
  | m + 1 => bif Nat.beq (m % 2) 0 then (match VTr.set k l (m / 2) x with | some l => some (.node a l r) | none => none)
   else (match VTr.set k r (m / 2) x with | some r => some (.node a l r) | none => none)
theorem VTr.set_ok : ∀ (k : Nat) (t : VTr) (n : Nat) (x : AV) (t' : VTr), VTr.set k t n x = some t' → t'.get = upd t.get n x := by
 intro k
 induction k with
 | zero => intro t n x t' h; cases h
 | succ k ih =>
  intro t n x t' h
  have key : ∀ (a : AV) (l r : VTr), (match n with
    | 0 => some (VTr.node x l r)
    | m + 1 => bif Nat.beq (m % 2) 0 then (match VTr.set k l (m / 2) x with | some l => some (VTr.node a l r) | none => none)
     else (match VTr.set k r (m / 2) x with | some r => some (VTr.node a l r) | none => none)) = some t' → t'.get = upd (VTr.node a l r).get n x := by
   intro a l r h
   funext m
   cases n with
   | zero =>
    injection h with h; subst h
    cases m <;> simp [VTr.get, upd]
   | succ n =>
    simp only at h
    cases hb : Nat.beq (n % 2) 0 with
    | true =>
     rw [hb, cond_true] at h
     cases hs : VTr.set k l (n / 2) x with
     | none => rw [hs] at h; cases h
     | some l' =>
      rw [hs] at h
      injection h with h; subst h
      have := ih _ _ _ _ hs
      cases m with
      | zero => simp [VTr.get, upd]
      | succ m =>
       simp only [VTr.get]
       by_cases hmn : m = n
       ·subst hmn
        rw [hb, cond_true, this]; simp [upd]
       ·have hne : (m + 1 = n + 1) = False := by simp; exact hmn
        rw [upd, if_neg (by omega)]
        simp only [VTr.get]
        cases hm : Nat.beq (m % 2) 0 with
        | true =>
         rw [cond_true, cond_true, this, upd, if_neg]
         have h1 := Nat.eq_of_beq_eq_true hb
         have h2 := Nat.eq_of_beq_eq_true hm
         omega
        | false => rfl
    | false =>
     rw [hb, cond_false] at h
     cases hs : VTr.set k r (n / 2) x with
     | none => rw [hs] at h; cases h
     | some l' =>
      rw [hs] at h
      injection h with h; subst h
      have := ih _ _ _ _ hs
      cases m with
      | zero => simp [VTr.get, upd]
      | succ m =>
       simp only [VTr.get]
       by_cases hmn : m = n
       ·subst hmn
        rw [hb, cond_false, this]; simp [upd]
       ·rw [upd, if_neg (by omega)]
        simp only [VTr.get]
        cases hm : Nat.beq (m % 2) 0 with
        | true => rfl
        | false =>
         rw [cond_false, cond_false, this, upd, if_neg]
         have h1 := Nat.ne_of_beq_eq_false hb
         have h2 := Nat.ne_of_beq_eq_false hm
         omega
  cases t with
  | leaf =>
   have := key .un .leaf .leaf (by cases n <;> exact h)
   rw [this]
   funext m
   simp only [upd]
   split
   ·rfl
   ·cases m with
    | zero => rfl
    | succ m => simp [VTr.get]
  | node a l r => exact key a l r (by cases n <;> exact h)
def putX (t : VTr) : Option Nat → AV → Option VTr
 | some d, a => t.set 16 d a
 | none, _ => some t
theorem putX_ok {t t' : VTr} {d : Option Nat} {a : AV} (h : putX t d a = some t') : t'.get = put t.get d a := by
 cases d with
 | none => injection h with h; subst h; rfl
 | some d => exact VTr.set_ok _ _ _ _ _ h
def eqV : Value → Value → Bool
 | .int k x, .int k' y => decide (k = k') && x == y
 | .bool a, .bool b => a == b
 | .string a, .string b => a == b
 | .pointer none, .pointer none => true
 | .slice none 0 0, .slice none 0 0 => true
 | .map none, .map none => true
 | _, _ => false
theorem eqV_ok {x y : Value} (h : eqV x y = true) : x = y := by
 unfold eqV at h
 split at h
 ·simp only [Bool.and_eq_true, decide_eq_true_eq, beq_iff_eq] at h
  rw [h.1, h.2]
 ·simp at h; rw [h]
 ·rw [(bytes_beq' _ _).1 h]
 ·rfl
 ·rfl
 ·rfl
 ·cases h
def eqL (f : AV → AV → Bool) : List AV → List AV → Bool
 | [], [] => true
 | a :: as_, b :: bs => f a b && eqL f as_ bs
 | _, _ => false
theorem eqL_ok {f : AV → AV → Bool} (hf : ∀ a b, f a b = true → a = b) : ∀ {as_ bs : List AV}, eqL f as_ bs = true → as_ = bs := by
 intro as_
 induction as_ with
 | nil => intro bs h; cases bs with
  | nil => rfl
  | cons b bs => cases h
 | cons a as_ ih => intro bs h; cases bs with
  | nil => cases h
  | cons b bs =>
   simp only [eqL, Bool.and_eq_true] at h
   rw [hf _ _ h.1, ih h.2]
def eqA : Nat → AV → AV → Bool
 | 0, _, _ => false
 | k + 1, .v x, .v y => eqV x y
 | k + 1, .ptr i o, .ptr i' o' => i == i' && o == o'
 | k + 1, .mp i, .mp i' => i == i'
 | k + 1, .mr j o l n g, .mr j' o' l' n' g' => j == j' && o == o' && l == l' && n == n' && g == g'
 | k + 1, .sl xs, .sl ys => eqL (eqA k) xs ys
 | k + 1, .agg xs, .agg ys => eqL (eqA k) xs ys
 | k + 1, .ow xs j, .ow ys j' => eqL (eqA k) xs ys && j == j'
 | _ + 1, _, _ => false
theorem eqA_ok : ∀ (k : Nat) (a b : AV), eqA k a b = true → a = b := by
 intro k
 induction k with
 | zero => intro a b h; cases h
 | succ k ih =>
  intro a b h
  unfold eqA at h
  split at h
  ·contradiction
  ·rw [eqV_ok h]
  ·simp only [Bool.and_eq_true, beq_iff_eq] at h; rw [h.1, h.2]
  ·simp only [beq_iff_eq] at h; rw [h]
  ·simp only [Bool.and_eq_true, beq_iff_eq] at h
   obtain ⟨⟨⟨⟨h1, h2⟩, h3⟩, h4⟩, h5⟩ := h
   rw [h1, h2, h3, h4, h5]
  ·rename_i h'; injection h' with h'; subst h'; rw [eqL_ok ih h]
  ·rename_i h'; injection h' with h'; subst h'; rw [eqL_ok ih h]
  ·rename_i h'; injection h' with h'; subst h'
   simp only [Bool.and_eq_true, beq_iff_eq] at h
   rw [eqL_ok ih h.1, h.2]
  ·cases h
def eqO (a : Option AV) (b : AV) : Bool := match a with | some a => eqA 20 a b | none => false
theorem eqO_ok {a : Option AV} {b : AV} (h : eqO a b = true) : a = some b := by
 unfold eqO at h
 split at h
 ·rw [eqA_ok _ _ _ h]
 ·cases h
def seenX (P : Program) (all : Array Oper) (i : Nat) (e : Env) (S : Seen) (o : Op) (a : AV) (H H' : Heap) : Option Seen :=
 match o with
 | .load t p => bif S.snaps.all fun s => eqO (loadA P s.2 t (ev e p)) a || reachL all i s.1 then some { S with loads := (i, t, ev e p, a) :: S.loads } else none
 | .slice t x _ _ _ => match ev e x with
  | .ptr j off => (loadA P H t (.ptr j off)).bind fun v => bif S.snaps.all fun s => eqO (loadA P s.2 t (.ptr j off)) v || reachL all i s.1 then some { S with loads := (i, t, .ptr j off, v) :: S.loads } else none
  | _ => some S
 | o => bif effOp o then (bif S.loads.all fun l => eqO (loadA P H' l.2.1 l.2.2.1) l.2.2.2 || reachE all 8 i l.1 then some { S with snaps := (i, H) :: S.snaps } else none) else some S
theorem seenX_ok {P : Program} {all : Array Oper} {i : Nat} {e : Env} {S S' : Seen} {o : Op} {a : AV} {H H' : Heap} (h : seenX P all i e S o a H H' = some S') : seenOK P all i e S o a H H' = some S' := by
 unfold seenX at h
 unfold seenOK
 split at h
 ·rename_i t p
  simp only
  cases hc : S.snaps.all fun s => eqO (loadA P s.2 t (ev e p)) a || reachL all i s.1 with
  | false => rw [hc] at h; cases h
  | true =>
   rw [hc] at h
   rw [if_pos]
   ·exact h
   ·intro s hs
    have := List.all_eq_true.1 hc s hs
    simp only [Bool.or_eq_true] at this
    exact this.symm.imp id eqO_ok
 ·rename_i t x lo hi mx
  simp only
  generalize ev e x = v0 at h ⊢
  split at h
  ·rename_i j off
   simp only
   obtain ⟨v, hv, h⟩ := xoB.1 h
   rw [hv, Option.bind_some]
   cases hc : S.snaps.all fun s => eqO (loadA P s.2 t (.ptr j off)) v || reachL all i s.1 with
   | false => rw [hc] at h; cases h
   | true =>
    rw [hc] at h
    rw [if_pos]
    ·exact h
    ·intro s hs
     have := List.all_eq_true.1 hc s hs
     simp only [Bool.or_eq_true] at this
     exact this.symm.imp id eqO_ok
  ·rename_i hno
   cases v0 <;> first | exact h | exact (hno _ _ rfl).elim
 ·rename_i hno hno2
  have key : ∀ (o : Op) (n1 n2 : Option Seen), (∀ t p, o ≠ .load t p) → (bif effOp o then n1 else some S) = some S' → (n1 = some S' → n2 = some S') → (if effOp o = true then n2 else some S) = some S' := by
   intro o n1 n2 _ h1 h2
   cases he : effOp o with
   | false => rw [he] at h1; simpa using h1
   | true => rw [he] at h1; rw [if_pos rfl]; exact h2 (by simpa using h1)
  have key2 : (bif S.loads.all fun l => eqO (loadA P H' l.2.1 l.2.2.1) l.2.2.2 || reachE all 8 i l.1 then some { S with snaps := (i, H) :: S.snaps } else none) = some S' →
    (open Classical in if ∀ l ∈ S.loads, reachE all 8 i l.1 = true ∨ loadA P H' l.2.1 l.2.2.1 = some l.2.2.2 then some { S with snaps := (i, H) :: S.snaps } else none) = some S' := by
   intro hx'
   cases hc : S.loads.all fun l => eqO (loadA P H' l.2.1 l.2.2.1) l.2.2.2 || reachE all 8 i l.1 with
   | false => rw [hc] at hx'; cases hx'
   | true =>
    rw [hc] at hx'
    rw [if_pos]
    ·exact hx'
    ·intro s hs
     have := List.all_eq_true.1 hc s hs
     simp only [Bool.or_eq_true] at this
     exact this.symm.imp id eqO_ok
  cases o <;> first | exact absurd rfl (hno _ _) | exact (hno _ _ rfl).elim | exact (hno2 _ _ _ _ _ rfl).elim | exact key _ _ _ (by intro t p h; cases h) h key2
def nfI {β : Type} (n : Int) (k : Int → Option β) : Option β := match n with
 | .ofNat m => (match m with | 0 => k (.ofNat 0) | m + 1 => k (.ofNat (m + 1)))
 | .negSucc m => (match m with | 0 => k (.negSucc 0) | m + 1 => k (.negSucc (m + 1)))
theorem nfI_eq {β : Type} (n : Int) (k : Int → Option β) : nfI n k = k n := by
 unfold nfI
 split
 ·split <;> rfl
 ·split <;> rfl
def nfN {β : Type} (n : Nat) (k : Nat → Option β) : Option β := match n with | 0 => k 0 | m + 1 => k (m + 1)
theorem nfN_eq {β : Type} (n : Nat) (k : Nat → Option β) : nfN n k = k n := by
 unfold nfN
 split <;> rfl
def nf {β : Type} (a : AV) (k : AV → Option β) : Option β := match a with
 | .v (.int kd n) => nfI n fun n => k (.v (.int kd n))
 | .v (.bool true) => k (.v (.bool true))
 | .v (.bool false) => k (.v (.bool false))
 | .ptr j off => nfN j fun j => nfN off fun off => k (.ptr j off)
 | a => k a
theorem nf_eq {β : Type} (a : AV) (k : AV → Option β) : nf a k = k a := by
 unfold nf
 split
 ·rw [nfI_eq]
 ·rfl
 ·rfl
 ·rw [nfN_eq, nfN_eq]
 ·rfl
def lopsX (P : Program) (C : Cfg) (call : CallF) (all : Array Oper) : List Oper → VTr → Heap → Option (VTr × Heap)
 | [], e, H => some (e, H)
 | o :: r, e, H =>
  match wants all e.get o with
  | none => none
  | some false => match putX e o.dst skipA with
   | some e' => lopsX P C call all r e' H
   | none => none
  | some true => match stepA P C call o.dst e.get H o.op with
   | some (a, H') => nf a fun a => match putX e o.dst a with
    | some e' => lopsX P C call all r e' H'
    | none => none
   | none => none
theorem lopsX_ok {P : Program} {C : Cfg} {c1 c2 : CallF} (hc : CLe c1 c2) (all : Array Oper) : ∀ (l : List Oper) (e : VTr) (H : Heap) e' H', lopsX P C c1 all l e H = some (e', H') → lops P C c2 all l e.get H = some (e'.get, H') := by
 intro l
 induction l with
 | nil => intro e H e' H' h; injection h with h; injection h with h1 h2; subst h1 h2; rfl
 | cons o l ih =>
  intro e H e' H' h
  unfold lopsX at h
  unfold lops
  split at h
  ·cases h
  ·rename_i hw
   rw [hw]
   split at h
   ·rename_i e1 he1
    simp only
    rw [← putX_ok he1]
    exact ih _ _ _ _ h
   ·cases h
  ·rename_i hw
   rw [hw]
   split at h
   ·rename_i a H1 hs
    rw [nf_eq] at h
    split at h
    ·rename_i e1 he1
     simp only
     rw [stepA_mono hc hs, Option.bind_some, ← putX_ok he1]
     exact ih _ _ _ _ h
    ·cases h
   ·cases h
def lopsDX (P : Program) (C : Cfg) (call : CallF) (all : Array Oper) : Nat → List Oper → VTr → Heap → Seen → Option (VTr × Heap)
 | _, [], e, H, _ => some (e, H)
 | i, o :: r, e, H, S =>
  match wants all e.get o with
  | none => none
  | some false => match putX e o.dst skipA with
   | some e' => lopsDX P C call all (i + 1) r e' H S
   | none => none
  | some true => match stepA P C call o.dst e.get H o.op with
   | some (a, H') => nf a fun a => match seenX P all i e.get S o.op a H H' with
    | some S' => match putX e o.dst a with
     | some e' => lopsDX P C call all (i + 1) r e' H' S'
     | none => none
    | none => none
   | none => none
theorem lopsDX_ok {P : Program} {C : Cfg} {c1 c2 : CallF} (hc : CLe c1 c2) (all : Array Oper) : ∀ (l : List Oper) (i : Nat) (e : VTr) (H : Heap) (S : Seen) e' H', lopsDX P C c1 all i l e H S = some (e', H') → lopsD P C c2 all i l e.get H S = some (e'.get, H') := by
 intro l
 induction l with
 | nil => intro i e H S e' H' h; injection h with h; injection h with h1 h2; subst h1 h2; rfl
 | cons o l ih =>
  intro i e H S e' H' h
  unfold lopsDX at h
  unfold lopsD
  split at h
  ·cases h
  ·rename_i hw
   rw [hw]
   split at h
   ·rename_i e1 he1
    simp only
    rw [← putX_ok he1]
    exact ih _ _ _ _ _ _ h
   ·cases h
  ·rename_i hw
   rw [hw]
   split at h
   ·rename_i a H1 hs
    rw [nf_eq] at h
    split at h
    ·rename_i S1 hS1
     split at h
     ·rename_i e1 he1
      simp only
      rw [stepA_mono hc hs, Option.bind_some]
      simp only
      rw [seenX_ok hS1, Option.bind_some, ← putX_ok he1]
      exact ih _ _ _ _ _ _ h
     ·cases h
    ·cases h
   ·cases h
def lcodeX (P : Program) (C : Cfg) (call : CallF) : Nat → Code → VTr → Heap → Option (Ex × VTr × Heap)
 | 0, _, _, _ => none
 | _ + 1, .skip, e, H => some (.normal, e, H)
 | _ + 1, .region _ ops false, e, H => match lopsX P C call ops ops.toList e H with
  | some (e, H) => some (.normal, e, H)
  | none => none
 | _ + 1, .region _ ops true, e, H => match lopsDX P C call ops 0 ops.toList e H {} with
  | some (e, H) => some (.normal, e, H)
  | none => none
 | n + 1, .seq a b, e, H =>
  match lcodeX P C call n a e H with
  | some (.normal, e, H) => lcodeX P C call n b e H
  | r => r
 | n + 1, .cond c a b, e, H =>
  match ev e.get c with
  | .v (.bool true) => lcodeX P C call n a e H
  | .v (.bool false) => lcodeX P C call n b e H
  | _ => none
 | n + 1, .block id a, e, H =>
  match lcodeX P C call n a e H with
  | some (.exit i, e, H) => bif Nat.beq i id then some (.normal, e, H) else some (.exit i, e, H)
  | r => r
 | n + 1, .loop a, e, H =>
  match lcodeX P C call n a e H with
  | some (.normal, e, H) => lcodeX P C call n (.loop a) e H
  | r => r
 | _ + 1, .exit id, e, H => some (.exit id, e, H)
 | _ + 1, .ret, e, H => some (.ret, e, H)
 | _ + 1, _, _, _ => none
theorem lcodeX_ok {P : Program} {C : Cfg} {c1 c2 : CallF} (hc : CLe c1 c2) : ∀ (n : Nat) (c : Code) (e : VTr) (H : Heap) x e' H', lcodeX P C c1 n c e H = some (x, e', H') → lcode P C c2 n c e.get H = some (x, e'.get, H') := by
 intro n
 induction n with
 | zero => intro c e H x e' H' h; cases h
 | succ n ih =>
  intro c e H x e' H' h
  cases c with
  | skip => injection h with h; injection h with h1 h; injection h with h2 h3; subst h1 h2 h3; rfl
  | region id ops d =>
   cases d with
   | false =>
    simp only [lcodeX] at h
    simp only [lcode]
    split at h
    ·rename_i e1 H1 h1
     injection h with h; injection h with h2 h; injection h with h3 h4; subst h2 h3 h4
     rw [lopsX_ok hc _ _ _ _ _ _ h1]; rfl
    ·cases h
   | true =>
    simp only [lcodeX] at h
    simp only [lcode]
    split at h
    ·rename_i e1 H1 h1
     injection h with h; injection h with h2 h; injection h with h3 h4; subst h2 h3 h4
     rw [lopsDX_ok hc _ _ _ _ _ _ _ _ h1]; rfl
    ·cases h
  | seq a b =>
   simp only [lcodeX] at h
   simp only [lcode]
   split at h
   ·rename_i e1 H1 h1
    rw [ih _ _ _ _ _ _ h1]
    exact ih _ _ _ _ _ _ h
   ·rename_i hne
    rw [ih _ _ _ _ _ _ h]
    cases x with
    | normal => exact absurd h (hne _ _)
    | exit i => rfl
    | ret => rfl
  | cond c a b =>
   simp only [lcodeX] at h
   simp only [lcode]
   split at h
   ·rename_i hcv
    rw [hcv]
    simp only [if_pos]
    exact ih _ _ _ _ _ _ h
   ·rename_i hcv
    rw [hcv]
    simp only [Bool.false_eq_true, if_false]
    exact ih _ _ _ _ _ _ h
   ·cases h
  | block id a =>
   simp only [lcodeX] at h
   simp only [lcode]
   split at h
   ·rename_i i e1 H1 h1
    rw [ih _ _ _ _ _ _ h1]
    simp only
    cases hb : Nat.beq i id with
    | true =>
     rw [hb, cond_true] at h
     injection h with h; injection h with h2 h; injection h with h3 h4; subst h2 h3 h4
     rw [if_pos (Nat.eq_of_beq_eq_true hb)]
    | false =>
     rw [hb, cond_false] at h
     injection h with h; injection h with h2 h; injection h with h3 h4; subst h2 h3 h4
     rw [if_neg (Nat.ne_of_beq_eq_false hb)]
   ·rename_i hne
    rw [ih _ _ _ _ _ _ h]
    cases x with
    | normal => rfl
    | exit i => exact absurd h (hne _ _ _)
    | ret => rfl
  | loop a =>
   simp only [lcodeX] at h
   simp only [lcode]
   split at h
   ·rename_i e1 H1 h1
    rw [ih _ _ _ _ _ _ h1]
    exact ih _ _ _ _ _ _ h
   ·rename_i hne
    rw [ih _ _ _ _ _ _ h]
    cases x with
    | normal => exact absurd h (hne _ _)
    | exit i => rfl
    | ret => rfl
  | exit id => injection h with h; injection h with h1 h; injection h with h2 h3; subst h1 h2 h3; rfl
  | ret => injection h with h; injection h with h1 h; injection h with h2 h3; subst h1 h2 h3; rfl
  | _ => cases h
def trOf : Nat → List AV → VTr → Option VTr
 | _, [], t => some t
 | i, a :: as_, t => match putX t (some i) a with
  | some t => trOf (i + 1) as_ t
  | none => none
theorem trOf_ok : ∀ (as_ : List AV) (i : Nat) (t t' : VTr), trOf i as_ t = some t' → ∀ k, t'.get k = if i ≤ k ∧ k < i + as_.length then as_.getD (k - i) .un else t.get k := by
 intro as_
 induction as_ with
 | nil => intro i t t' h k; injection h with h; subst h; rw [if_neg (by simp)]
 | cons a as_ ih =>
  intro i t t' h k
  unfold trOf at h
  split at h
  ·rename_i t1 h1
   rw [ih _ _ _ h k, putX_ok h1]
   simp only [put, upd, List.length_cons]
   by_cases hk : k = i
   ·subst hk
    rw [if_neg (by omega), if_pos rfl, if_pos (by omega)]; simp
   ·by_cases hk2 : i + 1 ≤ k ∧ k < i + 1 + as_.length
    ·rw [if_pos hk2, if_pos (by omega), show k - i = (k - (i + 1)) + 1 by omega]; simp
    ·rw [if_neg hk2, if_neg hk, if_neg (by omega)]
  ·cases h
theorem trOf_env {args : List AV} {t : VTr} (h : trOf 0 args .leaf = some t) : t.get = env0 args := by
 funext k
 rw [trOf_ok _ _ _ _ h k]
 unfold env0
 split
 ·simp
 ·rename_i hk
  rw [xgD, List.getElem?_eq_none (by omega)]
  rfl
def lcallX (P : Program) (C : Cfg) : Nat → CallF
 | 0, _, _, _ => none
 | n + 1, f, args, H =>
  match C.ext f with
  | some g => g args H
  | none =>
   bif C.ok f then
    match P.funcs[f]? with
    | some fn => match fn.body with
     | some c => match trOf 0 args .leaf with
      | some t => match lcodeX P (C.at f) (lcallX P C n) n c t H with
       | some (.exit _, _, _) => none
       | some (_, e, H) => (resultsA P fn e.get H).map fun a => (a, H)
       | none => none
      | none => none
     | none => none
    | none => none
   else none
theorem lcallX_ok {P : Program} {C : Cfg} : ∀ n, CLe (lcallX P C n) (lcall P C n) := by
 intro n
 induction n with
 | zero => intro f a H r h; cases h
 | succ n ih =>
  intro f a H r h
  unfold lcallX at h
  unfold lcall
  split at h
  ·rename_i g hg
   rw [hg]; exact h
  ·rename_i hg
   rw [hg]
   simp only
   cases hk : C.ok f with
   | false => rw [hk] at h; cases h
   | true =>
    rw [hk, cond_true] at h
    rw [if_pos rfl]
    split at h
    ·rename_i fn hf
     rw [hf]
     simp only
     split at h
     ·rename_i c hb
      rw [hb]
      simp only
      split at h
      ·rename_i t ht
       split at h
       ·cases h
       ·rename_i x e1 H1 hne hl
        have := lcodeX_ok ih _ _ _ _ _ _ _ hl
        rw [trOf_env ht] at this
        rw [this]
        cases x with
        | exit i => exact absurd rfl (hne i)
        | normal => exact h
        | ret => exact h
       ·cases h
      ·cases h
     ·cases h
    ·cases h
theorem closed_ok {P : Program} {C : Cfg} (W0 : World0 P C) {f : FuncId} {n : Nat} {b : Bool} {H' : Heap} (hsig : C.sig f = {}) (h : lcall P C n f [] [] = some (.b b, H')) {H : Heap} : CallOK P {} f [] H (.b b) H := by
 intro F L w vs hS hl hrel hown hglob
 have hc := ((lcall_ok W0 n).ok f [] [] _ H' h).1
 rw [hsig] at hc
 have h0 : St P { get := fun _ _ => none, room := fun _ => 0 } [] NX w [] :=
  { mem := (by intro B i v h; cases h), len := rfl, obj := (by simp), lt := (by simp), nof := (by simp), nox := (by simp), inj := (by simp), xlt := (by intro B h; exact h.elim), room0 := (fun B h => rfl), mob := (by simp), rm := (by simp) }
 refine (hc _ [] w vs h0 hl (by intro k c hk; simp at hk) ⟨by intro k n hk; simp at hk, by intro j k n m hj; simp at hj⟩ (hglob.weaken (by simp) (by rintro B _ ⟨j, n, hj, _⟩; simp at hj))).mono ?_
 rintro e w' ⟨v, F', L', rfl, hR⟩
 have hv : v = .bool b := by
  have := hR.rel
  cases this; rfl
 subst hv
 have hb : Go.RowKit.Below w.heap.size w w' := by
  refine ⟨hR.goes.rest.1, hR.goes.rest.2.1, hR.goes.rest.2.2, hR.goes.size, fun k hk => ?_⟩
  refine (hR.goes.keep k hk ?_ (by simp)).1
  rintro ⟨j, n, hj, _⟩
  simp at hj
 obtain ⟨hS1, hg1⟩ := hS.below hb
 exact ⟨_, F, L, rfl, .sc _ rfl, hS1, hg1.weaken (fun _ _ h => h.elim), by simp, by simp⟩
def closedT (b : Bool) (H : Heap) : List AV → Option (AV × Heap)
 | [] => some (.b b, H)
 | _ => none
theorem closedT_ok {P : Program} {C : Cfg} (W0 : World0 P C) {f : FuncId} {n : Nat} {b : Bool} (hsig : C.sig f = {}) (h : ((lcallX P C n f [] []).map fun r => eqA 2 r.1 (.b b)) = some true) {args : List AV} {H : Heap} {r : AV} {H' : Heap} (hr : closedT b H args = some (r, H')) : CallOK P {} f args H r H' := by
 obtain ⟨⟨a, H1⟩, h1, h2⟩ := xoM.1 h
 have := eqA_ok _ _ _ h2
 simp only at this
 subst this
 cases args with
 | nil =>
  injection hr with hr; injection hr with hr1 hr2; subst hr1 hr2
  exact closed_ok W0 hsig (lcallX_ok _ _ _ _ _ h1)
 | cons x xs => cases hr
end Go.Lv
set_option linter.unusedVariables false
set_option linter.unusedSimpArgs false
namespace Go.Lv
section
variable {P : Program} {C : Cfg} {d : Option Nat} {e : Env} {H : Heap}
def dynF (P : Program) (C : Cfg) (m : Bool) (x : AV) (e : Env) (args : List Operand) (H : Heap) [Q : K (AV → Heap → Prop)] : Prop :=
 match x with
 | .fn g caps => C.dyn g = true ∧ (bif m then altF P C g ((args.map (argE C g e)) ++ caps) H Q.v else WF P C g ((args.map (argE C g e)) ++ caps) H Q.v)
 | _ => False
theorem WS_dyn {t : Nat} {args : List Operand} {ts : Array TypeId} {Q : AV → Heap → Prop} : WS P C d e H (.call { callee := .value (.tmp t), args := List.toArray args, argTypes := ts }) Q = @dynF P C (C.isMu d) (e t) e args H ⟨Q⟩ := by
 unfold WS
 simp only [stepA_plain (spec_none (o := .call { callee := .value (.tmp t), args := List.toArray args, argTypes := ts }) rfl rfl)]
 simp only [stepB, ev]
 unfold dynF
 cases he : e t with
 | fn g caps =>
  simp only [he]
  by_cases hd : C.dyn g = true
  ·simp only [if_pos hd, hd, true_and]
   unfold Cfg.via Cfg.altD altF
   cases C.isMu d with
   | false => rfl
   | true =>
    simp only [cond_true]
    cases C.alt g with
    | none => rfl
    | some s =>
     simp only
     refine propext ⟨fun ⟨n, a, H', h1, h2⟩ => ⟨(a, H'), h1, h2⟩, fun ⟨p, h1, h2⟩ => ⟨0, p.1, p.2, h1, h2⟩⟩
  ·simp only [if_neg hd, hd, false_and]
   simp
 | _ => simp
@[go_sem] theorem rS_dyn {f : FuncId} {t : Nat} {args : List Operand} {ts : Array TypeId} {Q : K (AV → Heap → Prop)} : @rS P (C.at f) d e H (.call { callee := .value (.tmp t), args := List.toArray args, argTypes := ts }) Q = @muP ((C.at f).isMu d) ⟨@dynF P C true (e t) e args H Q⟩ ⟨@dynF P C false (e t) e args H Q⟩ := by
 show WS P (C.at f) d e H _ Q.v = _
 rw [WS_dyn]
 unfold dynF
 cases (C.at f).isMu d with
 | false =>
  cases e t with
  | fn g caps =>
   show ((C.at f).dyn g = true ∧ WF P (C.at f) g _ H Q.v) = (C.dyn g = true ∧ WF P C g _ H Q.v)
   rw [WF.at]
   rfl
  | _ => rfl
 | true =>
  cases e t with
  | fn g caps =>
   show ((C.at f).dyn g = true ∧ altF P (C.at f) g _ H Q.v) = (C.dyn g = true ∧ altF P C g _ H Q.v)
   unfold altF
   have e1 : (C.at f).alt g = C.alt g := rfl
   rw [e1]
   cases C.alt g with
   | none => simp only; rw [WF.at]; rfl
   | some s => rfl
  | _ => rfl
@[go_sem] theorem dynF_fn {g : FuncId} {caps : List AV} {args : List Operand} {Q : K (AV → Heap → Prop)} (h : C.dyn g = true) : @dynF P C false (.fn g caps) e args H Q = @rF P C g ((args.map (argE C g e)) ++ caps) H Q := by
 show (C.dyn g = true ∧ _) = _
 rw [h]
 simp [rF]
end
end Go.Lv
