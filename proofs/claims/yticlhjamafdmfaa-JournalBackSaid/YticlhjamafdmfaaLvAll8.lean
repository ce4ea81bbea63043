/- A value semantics of the loaded code, its soundness, and walks through functions over it. -/
import Derived.Test.YticlhjamafdmfaaLvAll6
import Derived.Shelf.Bytes.SlClone
import Derived.Shelf.SlicesE.Clone
import Derived.Test.YticlhjamafdmfaaLvAll5
set_option linter.unusedVariables false
set_option linter.unusedSimpArgs false
/-! bytes.Clone and slices.Clone. -/
namespace Go.Lv
open Go.Proofs Go.Shelf
open Go.RowKit Go.Lib
section
variable {P : Program} {F : Facts} {L : List Nat} {w : World} {H : Heap}

def u8s : List AV → Option (List Int)
  | [] => some []
  | .v (.int .u8 n) :: r => (u8s r).map (n :: ·)
  | _ => none
theorem u8s_spec : ∀ {xs : List AV} {ns : List Int}, u8s xs = some ns → xs = ns.map fun n => AV.v (.int .u8 n) := by
  intro xs
  induction xs with
  | nil => intro ns h; injection h with h; subst h; rfl
  | cons x xs ih =>
    intro ns h
    unfold u8s at h
    split at h
    · rename_i he; cases he
    · rename_i n r he
      injection he with h1 h2; subst h1 h2
      obtain ⟨ms, hm, rfl⟩ := Option.map_eq_some_iff.1 h
      rw [ih hm]; rfl
    · cases h
theorem u8s_bytes (l : List UInt8) : u8s (l.map byteA) = some (l.map fun b => (b.toNat : Int)) := by
  induction l with
  | nil => rfl
  | cons b l ih => simp only [List.map_cons, byteA, u8s]; rw [show (l.map byteA) = (l.map fun b => AV.v (.int .u8 b.toNat)) from rfl] at ih; rw [show List.map byteA l = (l.map fun b => AV.v (.int .u8 b.toNat)) from rfl, ih]; rfl

def cloneB (H : Heap) : List AV → Option (AV × Heap)
  | [.sl xs] => (u8s xs).bind fun _ => if xs.length ≤ 140737488355328 then some (.sl xs, H) else none
  | [.mr j off len 1 false] => (H[j]?).bind fun cs => (u8s ((cs.drop off).take len)).bind fun _ => if off + len ≤ cs.length ∧ 0 < len ∧ len ≤ 140737488355328 ∧ isMv cs = false then some (.sl ((cs.drop off).take len), H) else none
  | _ => none

theorem row_u8 (ns : List Int) : Row F L 1 (ns.map fun n => AV.v (.int .u8 n)) (ns.map (Value.int .u8)) := by
  refine ⟨by simp, fun i e h => ?_, fun i e k c h hk => ?_⟩
  · obtain ⟨n, _, rfl⟩ := List.mem_map.1 (List.mem_of_getElem? h); rfl
  · rw [List.getElem?_map] at h
    obtain ⟨n, hn, rfl⟩ := Option.map_eq_some_iff.1 h
    cases k with
    | zero =>
      injection hk with hk; subst hk
      rw [List.getD_eq_getElem?_getD, Nat.mul_one, Nat.add_zero, List.getElem?_map, hn]
      exact .sc _ rfl
    | succ k => cases hk

theorem cloneB_ok {ρ : Ren} (hL : SlLaysK.n4 P ρ) {args : List AV} {r : AV} {H' : Heap} (h : cloneB H args = some (r, H')) : CallOK P (cloneSig 1) (ρ.f 4) args H r H' := by
  intro F L w vs hS hvl hrel hown
  have fin : ∀ (ns : List Int) (xs : List AV) (a : Addr) (c : Nat) (v : Value), xs = ns.map (fun n => AV.v (.int .u8 n)) → v = .slice (some a) xs.length c → xs.length ≤ 140737488355328 → (∀ i, i < ns.length → w.cell? (a.add i) = some (.int .u8 (ns.getD i 0))) →
      Calls P (ρ.f 4) #[v] w (fun e w' => ∃ v F' L', e = .returned v ∧ Ret P (cloneSig 1) F L w vs (.sl xs) H v F' L' w') := by
    intro ns xs a c v hx hv hlen hc
    subst hv
    have hnl : ns.length = xs.length := by rw [hx]; simp
    refine (Any.bytes_Clone_at hL a xs.length c ns w hnl hlen (fun i hi => hc i (by omega))).mono ?_
    rintro e w' ⟨v', rfl, ho, hne, hb⟩
    obtain ⟨F', L', hR⟩ := clone_end (vs := vs) hS (hx ▸ row_u8 ns) (by intro u hu; obtain ⟨n, _, rfl⟩ := List.mem_map.1 hu; rfl) (by omega) ho hb
    exact ⟨v', F', L', rfl, hR⟩
  have none_ : ∀ (c : Nat), Calls P (ρ.f 4) #[.slice none 0 c] w (fun e w' => ∃ v F' L', e = .returned v ∧ Ret P (cloneSig 1) F L w vs (.sl []) H v F' L' w') := by
    intro c
    refine (Any.bytes_Clone_nil hL 0 c w).mono ?_
    rintro e w' ⟨rfl, rfl⟩
    obtain ⟨F', L', hR⟩ := clone_end (n := 1) (t := 0) (xs := []) (news := []) (vs := vs) (v' := .slice none 0 0) hS (Row.nil 1) (by simp) (by omega) ⟨by simp, .inl ⟨rfl, rfl⟩⟩ (Below.refl _ _)
    exact ⟨_, F', L', rfl, hR⟩
  unfold cloneB at h
  split at h
  · rename_i xs
    obtain ⟨ns, hns, h⟩ := Option.bind_eq_some_iff.1 h
    split at h
    · rename_i hlen
      injection h with h; injection h with h1 h2; subst h1 h2
      have hx := u8s_spec hns
      match vs, hvl with
      | [v], _ =>
        have r0 := hrel 0 _ rfl
        simp only [List.getD_cons_zero] at r0
        obtain ⟨ad, cap, news, rfl, hcap, hnone, hrow, hone, hF⟩ := r0.row hS (n := 1) (by rw [hx]; intro a ha; obtain ⟨n, _, rfl⟩ := List.mem_map.1 ha; rfl)
        cases ad with
        | none =>
          have h0 : xs = [] := by
            apply List.eq_nil_of_length_eq_zero
            have := hnone rfl; omega
          subst h0
          exact none_ cap
        | some a =>
          refine fin ns xs a cap _ hx rfl hlen fun i hi => ?_
          have hnl : ns.length = xs.length := by rw [hx]; simp
          have hnw := hrow.len
          have hne : news ≠ [] := by intro he; rw [he] at hnw; simp at hnw; omega
          obtain ⟨B, o, ha, hf⟩ := hF hne
          injection ha with ha; subst ha
          have hxi : xs[i]? = some (AV.v (.int .u8 (ns.getD i 0))) := by
            rw [hx, List.getElem?_map, List.getD_eq_getElem?_getD, List.getElem?_eq_getElem hi]; rfl
          have := hrow.rel i _ 0 _ hxi rfl
          obtain ⟨e, _⟩ := this.v_eq
          rw [Nat.mul_one, Nat.add_zero] at e
          have hni : news[i]? = some (.int .u8 (ns.getD i 0)) := by
            rw [e]; exact getD_get (by omega)
          have hc := (hS.mem _ _ _ (hf i _ hni)).1
          rw [show Addr.add ⟨B, o, none⟩ i = ⟨B, o + i, none⟩ from add_at ..]
          exact hc
      | [], h => simp at h
      | _ :: _ :: _, h => simp at h
    · cases h
  · rename_i j off len
    obtain ⟨cs, hj, h⟩ := Option.bind_eq_some_iff.1 h
    obtain ⟨ns, hns, h⟩ := Option.bind_eq_some_iff.1 h
    split at h
    · rename_i hc
      obtain ⟨c1, c2, c3, c4⟩ := hc
      injection h with h; injection h with h1 h2; subst h1 h2
      have hx := u8s_spec hns
      match vs, hvl with
      | [v], _ =>
        have r0 := hrel 0 _ rfl
        simp only [List.getD_cons_zero] at r0
        cases r0 with
        | mr _ _ _ _ cap B _ hB hcap hn0 hroom hxx =>
          have hcne : cs ≠ [] := by intro he; rw [he] at c1; simp at c1; omega
          obtain ⟨arr, ta, m1, m2, m3, m4⟩ := hS.obj j cs B hj hcne c4 hB
          have hxl : ((cs.drop off).take len).length = len := by simp; omega
          have hnl : ns.length = len := by rw [← hxl, hx]; simp
          refine fin ns _ ⟨B, off, none⟩ cap _ hx (by rw [hxl]) (by omega) fun i hi => ?_
          have hxi : ((cs.drop off).take len)[i]? = some (AV.v (.int .u8 (ns.getD i 0))) := by
            rw [hx, List.getElem?_map, List.getD_eq_getElem?_getD, List.getElem?_eq_getElem hi]; rfl
          rw [List.getElem?_take, if_pos (by omega), List.getElem?_drop] at hxi
          obtain ⟨e, _⟩ := (m4 _ _ hxi).v_eq
          rw [show Addr.add ⟨B, off, none⟩ i = ⟨B, off + i, none⟩ from add_at .., cell?_eq m1, e]
          exact getD_get (by omega)
      | [], h => simp at h
      | _ :: _ :: _, h => simp at h
    · cases h
  · cases h

/-! ### slices.Clone, at elements of whatever size -/
def cloneT (n by_ : Nat) (H : Heap) : List AV → Option (AV × Heap)
  | [.v (.slice none 0 0)] => some (.v (.slice none 0 0), H)
  | [.sl xs] => if xs.length * by_ ≤ 140737488355328 ∧ xs.length ≤ 140737488355328 ∧ (∀ a ∈ xs, a.cells.length = n) ∧ 0 < n then
      (if 0 < xs.length then some (.ow xs H.length, H ++ [[.tk (xs.length * n)]]) else some (.sl [], H)) else none
  | [.ow xs _] => if xs.length * by_ ≤ 140737488355328 ∧ xs.length ≤ 140737488355328 ∧ (∀ a ∈ xs, a.cells.length = n) ∧ 0 < n ∧ 0 < xs.length then some (.ow xs H.length, H ++ [[.tk (xs.length * n)]]) else none
  | _ => none

set_option maxHeartbeats 2000000 in
set_option maxRecDepth 100000 in
/-- A slice without elements, at whatever address. -/
theorem clone_empty {ρ : Ren} (L : SlLaysE0.n41 P ρ) (i0 : TypeInfo) (z : Value) (size bytes : Nat) (hi : P.info? (ρ.t 23) = some i0) (hz0 : i0.zero = some z) (hz1 : i0.size = size) (hz2 : i0.bytes = bytes) (hzs : z.cells.size = size) (hsz : 0 < size)
    (z23 : ∀ w, (Go.sizeOf (ρ.t 23)).run P w = .ok size w) (a : Addr) (c : Nat) (w : World) :
    Calls P (ρ.f 41) #[.slice (some a) 0 c] w fun e w' => ∃ v', e = .returned v' ∧ w'.ownsRow w.heap.size (ρ.t 23) size v' 0 [] ∧ Below w.heap.size w w' := by
  have mixed := L.mixed; have t4 := L.t4; have a4 := L.a4; have z4 := L.z4; have v4 := L.v4; have t22 := L.t22; have a22 := L.a22; have z22 := L.z22; have v22 := L.v22
  have q22 : ∀ (w : World) (a : Option Addr) (n c n' c' : Nat), (binOp .eql (ρ.t 22) (.slice a n c) (.slice none n' c')).run P w = .ok (.bool a.isNone) w := fun w a n c n' c' => Lib.run_eql_slice_nil w _ _ a n c n' c' L.t22
  have u22 : ∀ w, Sem.run P (underlying (ρ.t 22)) w = .ok (TypeDesc.slice (ρ.t 23)) w := run_underlying t22
  obtain ⟨_, _, FG⟩ := L.f41
  go_enter FG, SlBodyN.n41_ntmps ρ
  go_wp2_with (at_builtin; refine wpList_append_own _ rfl _ _ (ρ.t 22) rfl w.heap.size (ρ.t 23) i0 z size bytes t22 hi hz0 hz1 hz2 hzs hsz _ _ _ rfl (World.ownsRow_made w #[] 0 (Nat.le_refl _) (Nat.zero_le _) (by simp)) a 0 c [] rfl (by simp) (by simp) (by simp) (by simp) (by simp) (by simp) ?_)
  intro v' w1 hown hgrow hnil
  go_wp2
  go_ret
  refine ⟨v', rfl, by simpa using hown, ?_⟩
  exact ((Below.refl _ w).alloc (Nat.le_refl _) _).grown hgrow (by simp) (by intro k hk; simp [Value.ownBlock] at hk; omega)

theorem cloneT_ok {ρ : Ren} {n by_ : Nat} (hL : SlLaysE0.n41 P ρ) {z : Value} (hi : (P.info? (ρ.t 23)).map (fun i => (i.zero, i.size, i.bytes)) = some (some z, n, by_)) (hzs : z.cells.size = n)
    {args : List AV} {r : AV} {H' : Heap} (h : cloneT n by_ H args = some (r, H')) : CallOK P {} (ρ.f 41) args H r H' := by
  intro F L w vs hS hvl hrel hown
  obtain ⟨i0, hi, hz⟩ := Option.map_eq_some_iff.1 hi
  injection hz with hz0 hz; injection hz with hz1 hz2
  have z23 : ∀ w, (Go.sizeOf (ρ.t 23)).run P w = .ok n w := fun w => by simp [Go.sizeOf, typeInfo, hi, hz1]
  have nil_ : ∀ (c : Nat) (a : AV), a = .sl [] ∨ a = .v (.slice none 0 0) → Calls P (ρ.f 41) #[.slice none 0 c] w (fun e w' => ∃ v F' L', e = .returned v ∧ Ret P {} F L w vs a H v F' L' w') := by
    intro c a ha
    refine (AnyE.slices_Clone_nil hL 0 c w).mono ?_
    rintro e w' ⟨rfl, rfl⟩
    refine ⟨_, F, L, rfl, ?_, hS, (Goes.refl _ F L w').weaken (fun _ _ h => h), by simp, by simp⟩
    rcases ha with rfl | rfl
    · exact .sl0 none 0 (fun _ => rfl)
    · exact .sc _ rfl
  have pos : ∀ (xs : List AV) (v : Value), 0 < n → xs.length * by_ ≤ 140737488355328 → xs.length ≤ 140737488355328 → (∀ a ∈ xs, a.cells.length = n) → 0 < xs.length → Rel F L (.sl xs) v →
      Calls P (ρ.f 41) #[v] w (fun e w' => ∃ v F' L', e = .returned v ∧ Ret P {} F L w vs (.ow xs H.length) (H ++ [[.tk (xs.length * n)]]) v F' L' w') := by
    intro xs v hn c1 c2 c3 c4 r0
    obtain ⟨ad, cap, news, rfl, hcap, hnone, hrow, hone, hF⟩ := r0.row hS c3
    have hnw := hrow.len
    have hpos : 0 < xs.length * n := Nat.mul_pos c4 hn
    obtain ⟨B, o, rfl, hf⟩ := hF (by intro he; rw [he] at hnw; simp at hnw; omega)
    refine (AnyE.slices_Clone hL i0 z n by_ hi hz0 hz1 hz2 hzs hn z23 B o xs.length cap news w hnw (by unfold maxLen; omega) c1 (fun j u hu => (hS.mem _ _ _ (hf j u hu)).1) hone).mono ?_
    rintro e w' ⟨v', rfl, ho, hne, hb⟩
    obtain ⟨F', L', hR⟩ := clone_endT (vs := vs) hS hrow hone hn c4 ho hb
    have hR' := hR
    exact ⟨v', F', L', rfl, hR⟩
  have one : ∀ (a : AV), args = [a] → ∃ v, vs = [v] := by
    intro a ha
    rw [ha] at hvl
    match vs, hvl with
    | [v], _ => exact ⟨v, rfl⟩
  unfold cloneT at h
  split at h
  · injection h with h; injection h with h1 h2; subst h1 h2
    obtain ⟨v, rfl⟩ := one _ rfl
    have r0 : Rel F L _ v := hrel 0 _ rfl
    obtain ⟨e, _⟩ := r0.v_eq
    subst e
    exact nil_ 0 _ (.inr rfl)
  · rename_i xs
    obtain ⟨v, rfl⟩ := one _ rfl
    have r0 : Rel F L _ v := hrel 0 _ rfl
    split at h
    · rename_i hc
      obtain ⟨c1, c2, c3, c4⟩ := hc
      split at h
      · rename_i h0
        injection h with h; injection h with h1 h2; subst h1 h2
        exact pos xs v c4 c1 c2 c3 h0 r0
      · rename_i h0
        injection h with h; injection h with h1 h2; subst h1 h2
        have : xs = [] := List.eq_nil_of_length_eq_zero (by omega)
        subst this
        cases r0 with
        | sl0 a cap ha =>
          cases a with
          | none => exact nil_ cap _ (.inl rfl)
          | some a =>
            refine (clone_empty hL i0 z n by_ hi hz0 hz1 hz2 hzs c4 z23 a cap w).mono ?_
            rintro e w' ⟨v', rfl, ho, hb⟩
            obtain ⟨hS1, hg1⟩ := hS.below hb
            refine ⟨v', F, L, rfl, ?_, hS1, hg1.weaken (fun _ _ h => h.elim), by simp, by simp⟩
            rcases ho.2 with ⟨rfl, _⟩ | ⟨g, cap, cur, rfl, _⟩
            · exact .sl0 none 0 (fun _ => rfl)
            · exact .sl0 _ _ (by simp)
        | sl _ _ _ _ _ _ _ hl h0' => simp at hl; omega
    · cases h
  · rename_i xs j
    obtain ⟨v, rfl⟩ := one _ rfl
    have r0 : Rel F L _ v := hrel 0 _ rfl
    split at h
    · rename_i hc
      obtain ⟨c1, c2, c3, c4, c5⟩ := hc
      injection h with h; injection h with h1 h2; subst h1 h2
      exact pos xs v c4 c1 c2 c3 c5 r0.owA
    · cases h
  · cases h
end
end Go.Lv
set_option linter.unusedVariables false
set_option linter.unusedSimpArgs false
/-! Bytes held against one another, rows that may be written too. -/
namespace Go.Lv
section
variable {P : Program} {F : Facts} {L : List Nat} {w : World} {H : Heap} {X : Nat → Prop}

def bytesV (H : Heap) : AV → Option ByteArray
  | .sl xs => bytesOfA xs
  | .mr j off len 1 false => (H[j]?).bind fun cs => if 0 < len ∧ off + len ≤ cs.length ∧ isMv cs = false then bytesOfA ((cs.drop off).take len) else none
  | _ => none
theorem bytesV_run (hS : St P F L X w H) {s d e : TypeId} (h1 : P.underlying s = some (.slice e)) (he : P.underlying e = some (.int .u8)) (h2 : P.underlying d = some .string) {a : AV} {v : Value} {str : ByteArray} (ha : Rel F L a v) (h : bytesV H a = some str) :
    (convert s d v).run P w = .ok (.string str) w := by
  unfold bytesV at h
  split at h
  · rename_i xs
    have hc : conv P s d (.sl xs) = some (.s str) := by
      unfold conv
      simp only [h1, h2, he, h, Option.map_some]
    obtain ⟨u, hu, hr⟩ := conv_same_run hS ha hc (fun x => .inl (by simp))
    obtain ⟨e, _⟩ := hr.v_eq
    rw [hu, ← e]
  · rename_i j off len
    obtain ⟨cs, hj, h⟩ := Option.bind_eq_some_iff.1 h
    split at h
    · rename_i hc
      obtain ⟨c1, c2, c3⟩ := hc
      obtain ⟨ns, hns, rfl⟩ := bytesOfA_some h
      cases ha with
      | mr _ _ _ _ cap B _ hB hcap hn0 hroom hxx =>
        have hcne : cs ≠ [] := by intro he; rw [he] at c2; simp at c2; omega
        obtain ⟨arr, ta, m1, m2, m3, m4⟩ := hS.obj j cs B hj hcne c3 hB
        have hxl : ((cs.drop off).take len).length = len := by simp; omega
        have hnl : ns.length = len := by rw [← hxl, hns]; simp
        refine run_convert_bytes_arg w s e h1 he B off len cap ns hnl (fun i hi => ?_) d h2
        have hxi : ((cs.drop off).take len)[i]? = some (AV.v (.int .u8 ns[i])) := by
          rw [hns, List.getElem?_map, List.getElem?_eq_getElem (by omega)]; rfl
        rw [List.getElem?_take, if_pos (by omega), List.getElem?_drop] at hxi
        obtain ⟨e, _⟩ := (m4 _ _ hxi).v_eq
        rw [cell?_eq m1, show ns.getD i 0 = ns[i] by simp [List.getD_eq_getElem?_getD, List.getElem?_eq_getElem (show i < ns.length by omega)], e]
        exact getD_get (by omega)
    · cases h
  · cases h

/-- What the call does, at bytes that are read. -/
def EqualsB (P : Program) (f : FuncId) (s d : TypeId) : Prop :=
  ∀ (w : World) (va vb : Value) (x y : ByteArray), (convert s d va).run P w = .ok (.string x) w → (convert s d vb).run P w = .ok (.string y) w → Calls P f #[va, vb] w fun e w' => e = .returned (.bool (x.toList == y.toList)) ∧ w' = w

def equalT (H : Heap) : List AV → Option (AV × Heap)
  | [a, b] => (bytesV H a).bind fun x => (bytesV H b).map fun y => (.b (x.toList == y.toList), H)
  | _ => none
theorem equalT_ok {f : FuncId} {s d e : TypeId} (h1 : P.underlying s = some (.slice e)) (he : P.underlying e = some (.int .u8)) (h2 : P.underlying d = some .string) (hc : EqualsB P f s d) {args : List AV} {r : AV} {H' : Heap} (h : equalT H args = some (r, H')) : CallOK P {} f args H r H' := by
  intro F L w vs hS hvl hrel hown
  unfold equalT at h
  split at h
  · rename_i a b
    obtain ⟨x, hx, h⟩ := Option.bind_eq_some_iff.1 h
    obtain ⟨y, hy, h⟩ := Option.map_eq_some_iff.1 h
    injection h with h3 h4; subst h3 h4
    match vs, hvl with
    | [va, vb], _ =>
      have ra : Rel F L a va := hrel 0 _ rfl
      have rb : Rel F L b vb := hrel 1 _ rfl
      refine (hc w va vb x y (bytesV_run hS h1 he h2 ra hx) (bytesV_run hS h1 he h2 rb hy)).mono ?_
      rintro e w' ⟨rfl, rfl⟩
      exact ⟨_, F, L, rfl, .sc _ rfl, hS, (Goes.refl _ F L w').weaken (fun _ _ h => h), by simp, by simp⟩
    | [], h => simp at h
    | [_], h => simp at h
    | _ :: _ :: _ :: _, h => simp at h
  · cases h
end
end Go.Lv
set_option linter.unusedVariables false
set_option linter.unusedSimpArgs false
/-! Stepping through code by rewriting. -/
namespace Go.Lv

/-! ### More fuel -/
def CLe (c1 c2 : CallF) : Prop := ∀ f a H r, c1 f a H = some r → c2 f a H = some r

theorem stepB_mono {P : Program} {C : Cfg} {c1 c2 : CallF} (hc : CLe c1 c2) {e : Env} {H : Heap} {o : Op} {r} (h : stepB P C c1 e H o = some r) : stepB P C c2 e H o = some r := by
  unfold stepB at h ⊢
  split at h
  · split at h
    · exact hc _ _ _ _ h
    · split at h
      · rename_i hd
        rw [if_pos hd]; exact hc _ _ _ _ h
      · cases h
    · cases h
  · exact h

theorem stepA_mono {P : Program} {C : Cfg} {c1 c2 : CallF} (hc : CLe c1 c2) {d : Option Nat} {e : Env} {H : Heap} {o : Op} {r} (h : stepA P C c1 d e H o = some r) : stepA P C c2 d e H o = some r := by
  unfold stepA at h ⊢
  split at h
  · rename_i hm; rw [if_pos hm]; exact h
  · rename_i hm; rw [if_neg hm]; exact stepB_mono hc h

theorem lops_mono {P : Program} {C : Cfg} {c1 c2 : CallF} (hc : CLe c1 c2) (all : Array Oper) : ∀ (l : List Oper) (e : Env) (H : Heap) r, lops P C c1 all l e H = some r → lops P C c2 all l e H = some r := by
  intro l
  induction l with
  | nil => intro e H r h; exact h
  | cons o l ih =>
    intro e H r h
    unfold lops at h ⊢
    cases hw : wants all e o with
    | none => rw [hw] at h; cases h
    | some t =>
      rw [hw] at h
      cases t with
      | false => exact ih _ _ _ h
      | true =>
        obtain ⟨⟨a, H'⟩, h1, h2⟩ := Option.bind_eq_some_iff.1 h
        rw [stepA_mono hc h1]
        exact ih _ _ _ h2

theorem lopsD_mono {P : Program} {C : Cfg} {c1 c2 : CallF} (hc : CLe c1 c2) (all : Array Oper) : ∀ (l : List Oper) (i : Nat) (e : Env) (H : Heap) (S : Seen) r, lopsD P C c1 all i l e H S = some r → lopsD P C c2 all i l e H S = some r := by
  intro l
  induction l with
  | nil => intro i e H S r h; exact h
  | cons o l ih =>
    intro i e H S r h
    unfold lopsD at h ⊢
    cases hw : wants all e o with
    | none => rw [hw] at h; cases h
    | some t =>
      rw [hw] at h
      cases t with
      | false => exact ih _ _ _ _ _ h
      | true =>
        obtain ⟨⟨a, H'⟩, h1, h2⟩ := Option.bind_eq_some_iff.1 h
        obtain ⟨S', h3, h4⟩ := Option.bind_eq_some_iff.1 h2
        rw [stepA_mono hc h1]
        simp only [Option.bind_some, h3]
        exact ih _ _ _ _ _ h4

theorem lcode_mono {P : Program} {C : Cfg} {c1 c2 : CallF} (hc : CLe c1 c2) : ∀ (m n : Nat), m ≤ n → ∀ (c : Code) (e : Env) (H : Heap) y, lcode P C c1 m c e H = some y → lcode P C c2 n c e H = some y := by
  intro m
  induction m with
  | zero => intro n _ c e H y h; cases h
  | succ m ih =>
    intro n hn c e H y h
    obtain ⟨n, rfl⟩ : ∃ k, n = k + 1 := ⟨n - 1, by omega⟩
    have ih := ih n (by omega)
    cases c with
    | seq a b =>
      simp only [lcode] at h ⊢
      split at h
      · rename_i e1 H1 h1
        rw [ih a e H _ h1]
        exact ih b e1 H1 y h
      · rename_i hne
        rw [ih a e H _ h]
        obtain ⟨x, e1, H1⟩ := y
        cases x with
        | normal => exact absurd h (hne e1 H1)
        | exit i => rfl
        | ret => rfl
    | cond c a b =>
      simp only [lcode] at h ⊢
      split at h
      · rename_i t ht
        cases t with
        | true => exact ih a e H y (by simpa using h)
        | false => exact ih b e H y (by simpa using h)
      · cases h
    | block id a =>
      simp only [lcode] at h ⊢
      split at h
      · rename_i i e1 H1 h1
        rw [ih a e H _ h1]
        exact h
      · rename_i hne
        rw [ih a e H _ h]
        obtain ⟨x, e1, H1⟩ := y
        cases x with
        | normal => rfl
        | exit i => exact absurd h (hne i e1 H1)
        | ret => rfl
    | loop a =>
      simp only [lcode] at h ⊢
      split at h
      · rename_i e1 H1 h1
        rw [ih a e H _ h1]
        exact ih (.loop a) e1 H1 y h
      · rename_i hne
        rw [ih a e H _ h]
        obtain ⟨x, e1, H1⟩ := y
        cases x with
        | normal => exact absurd h (hne e1 H1)
        | exit i => rfl
        | ret => rfl
    | skip => exact h
    | region id ops d =>
      cases d with
      | false =>
        simp only [lcode] at h ⊢
        obtain ⟨r, h1, h2⟩ := Option.map_eq_some_iff.1 h
        rw [lops_mono hc _ _ _ _ _ h1, Option.map_some, h2]
      | true =>
        simp only [lcode] at h ⊢
        obtain ⟨r, h1, h2⟩ := Option.map_eq_some_iff.1 h
        rw [lopsD_mono hc _ _ _ _ _ _ _ h1, Option.map_some, h2]
    | exit id => exact h
    | ret => exact h
    | _ => cases h

theorem lcall_succ {P : Program} {C : Cfg} : ∀ n, CLe (lcall P C n) (lcall P C (n + 1)) := by
  intro n
  induction n with
  | zero => intro f a H r h; cases h
  | succ n ih =>
    intro f a H r h
    rw [lcall] at h ⊢
    split at h
    · rename_i g hg; exact h
    · rename_i hg
      by_cases hok : C.ok f = true
      · rw [if_pos hok] at h ⊢
        cases hfn : P.funcs[f]? with
        | none => rw [hfn] at h; cases h
        | some fn =>
          rw [hfn] at h
          simp only at h ⊢
          cases hb : fn.body with
          | none => rw [hb] at h; cases h
          | some c =>
            rw [hb] at h
            simp only at h ⊢
            cases hl : lcode P (C.at f) (lcall P C n) n c (env0 a) H with
            | none => rw [hl] at h; cases h
            | some y =>
              rw [hl] at h
              rw [lcode_mono ih n (n + 1) (by omega) c _ _ _ hl]
              exact h
      · rw [if_neg hok] at h; cases h

theorem lcall_le {P : Program} {C : Cfg} {m n : Nat} (h : m ≤ n) : CLe (lcall P C m) (lcall P C n) := by
  induction h with
  | refl => exact fun f a H r h => h
  | step _ ih => exact fun f a H r h => lcall_succ _ f a H r (ih f a H r h)

theorem lcall_at {P : Program} {C : Cfg} {f : FuncId} : ∀ n, lcall P (C.at f) n = lcall P C n := by
  intro n
  induction n with
  | zero => rfl
  | succ n ih =>
    funext g args H
    rw [lcall, lcall, ih]
    rfl

/-! ### What holds behind -/
def WF (P : Program) (C : Cfg) (f : FuncId) (args : List AV) (H : Heap) (Q : AV → Heap → Prop) : Prop := ∃ n r H', lcall P C n f args H = some (r, H') ∧ Q r H'
def WC (P : Program) (C : Cfg) (c : Code) (e : Env) (H : Heap) (Q : Ex → Env → Heap → Prop) : Prop := ∃ n x e' H', lcode P C (lcall P C n) n c e H = some (x, e', H') ∧ Q x e' H'
def WO (P : Program) (C : Cfg) (all : Array Oper) (l : List Oper) (e : Env) (H : Heap) (Q : Env → Heap → Prop) : Prop := ∃ n e' H', lops P C (lcall P C n) all l e H = some (e', H') ∧ Q e' H'
def WD (P : Program) (C : Cfg) (all : Array Oper) (i : Nat) (l : List Oper) (e : Env) (H : Heap) (S : Seen) (Q : Env → Heap → Prop) : Prop := ∃ n e' H', lopsD P C (lcall P C n) all i l e H S = some (e', H') ∧ Q e' H'
def WS (P : Program) (C : Cfg) (d : Option Nat) (e : Env) (H : Heap) (o : Op) (Q : AV → Heap → Prop) : Prop := ∃ n a H', stepA P C (lcall P C n) d e H o = some (a, H') ∧ Q a H'

section
variable {P : Program} {C : Cfg}

theorem WF.mono {f args H} {Q Q' : AV → Heap → Prop} (h : WF P C f args H Q) (hq : ∀ r H', Q r H' → Q' r H') : WF P C f args H Q' := by
  obtain ⟨n, r, H', h1, h2⟩ := h; exact ⟨n, r, H', h1, hq _ _ h2⟩
theorem WC.mono {c e H} {Q Q' : Ex → Env → Heap → Prop} (h : WC P C c e H Q) (hq : ∀ x e' H', Q x e' H' → Q' x e' H') : WC P C c e H Q' := by
  obtain ⟨n, x, e', H', h1, h2⟩ := h; exact ⟨n, x, e', H', h1, hq _ _ _ h2⟩

/-- Behind a first piece of code. -/
def qSeq (P : Program) (C : Cfg) (b : Code) (Q : Ex → Env → Heap → Prop) : Ex → Env → Heap → Prop
  | .normal, e, H => WC P C b e H Q
  | x, e, H => Q x e H
def qBlock (id : Nat) (Q : Ex → Env → Heap → Prop) : Ex → Env → Heap → Prop
  | .exit i, e, H => if i = id then Q .normal e H else Q (.exit i) e H
  | x, e, H => Q x e H

theorem lc_le {m n : Nat} (h : m ≤ n) {c e H y} (h1 : lcode P C (lcall P C m) m c e H = some y) : lcode P C (lcall P C n) n c e H = some y := lcode_mono (lcall_le h) m n h c e H y h1

theorem WC.skip {e H Q} (h : Q .normal e H) : WC P C .skip e H Q := ⟨1, _, _, _, rfl, h⟩
theorem WC.exit {id e H Q} (h : Q (.exit id) e H) : WC P C (.exit id) e H Q := ⟨1, _, _, _, rfl, h⟩
theorem WC.ret {e H Q} (h : Q .ret e H) : WC P C .ret e H Q := ⟨1, _, _, _, rfl, h⟩
theorem WC.seq {a b e H Q} (h : WC P C a e H (qSeq P C b Q)) : WC P C (.seq a b) e H Q := by
  obtain ⟨n, x, e', H', h1, h2⟩ := h
  cases x with
  | normal =>
    obtain ⟨m, x, e2, H2, h3, h4⟩ := h2
    refine ⟨max m n + 1, x, e2, H2, ?_, h4⟩
    rw [lcode, lcode_mono (lcall_le (by omega)) n (max m n) (by omega) _ _ _ _ h1]
    exact lcode_mono (lcall_le (by omega)) m (max m n) (by omega) _ _ _ _ h3
  | exit i =>
    refine ⟨n + 1, _, _, _, ?_, h2⟩
    rw [lcode, lcode_mono (lcall_le (by omega)) n n (by omega) _ _ _ _ h1]
  | ret =>
    refine ⟨n + 1, _, _, _, ?_, h2⟩
    rw [lcode, lcode_mono (lcall_le (by omega)) n n (by omega) _ _ _ _ h1]
theorem WC.block {id a e H Q} (h : WC P C a e H (qBlock id Q)) : WC P C (.block id a) e H Q := by
  obtain ⟨n, x, e', H', h1, h2⟩ := h
  have h1 := lcode_mono (P := P) (C := C) (lcall_le (Nat.le_succ n)) n n (Nat.le_refl n) _ _ _ _ h1
  cases x with
  | normal => exact ⟨n + 1, _, _, _, by rw [lcode, h1], h2⟩
  | exit i =>
    simp only [qBlock] at h2
    by_cases hi : i = id
    · rw [if_pos hi] at h2
      exact ⟨n + 1, _, _, _, by rw [lcode, h1]; simp only [if_pos hi], h2⟩
    · rw [if_neg hi] at h2
      exact ⟨n + 1, _, _, _, by rw [lcode, h1]; simp only [if_neg hi], h2⟩
  | ret => exact ⟨n + 1, _, _, _, by rw [lcode, h1], h2⟩
theorem WC.cond {c a b e H Q} (t : Bool) (hc : ev e c = .b t) (h1 : t = true → WC P C a e H Q) (h0 : t = false → WC P C b e H Q) : WC P C (.cond c a b) e H Q := by
  cases t with
  | true =>
    obtain ⟨n, x, e', H', h, hq⟩ := h1 rfl
    exact ⟨n + 1, _, _, _, by rw [lcode, hc]; simpa using lcode_mono (P := P) (C := C) (lcall_le (Nat.le_succ n)) n n (Nat.le_refl n) _ _ _ _ h, hq⟩
  | false =>
    obtain ⟨n, x, e', H', h, hq⟩ := h0 rfl
    exact ⟨n + 1, _, _, _, by rw [lcode, hc]; simpa using lcode_mono (P := P) (C := C) (lcall_le (Nat.le_succ n)) n n (Nat.le_refl n) _ _ _ _ h, hq⟩
theorem WC.loop1 {a e H Q} (h : WC P C a e H (qSeq P C (.loop a) Q)) : WC P C (.loop a) e H Q := by
  obtain ⟨n, x, e', H', h1, h2⟩ := h
  cases x with
  | normal =>
    obtain ⟨m, x, e2, H2, h3, h4⟩ := h2
    refine ⟨max m n + 1, x, e2, H2, ?_, h4⟩
    rw [lcode, lcode_mono (lcall_le (by omega)) n (max m n) (by omega) _ _ _ _ h1]
    exact lcode_mono (lcall_le (by omega)) m (max m n) (by omega) _ _ _ _ h3
  | exit i =>
    refine ⟨n + 1, _, _, _, ?_, h2⟩
    rw [lcode, lcode_mono (lcall_le (by omega)) n n (by omega) _ _ _ _ h1]
  | ret =>
    refine ⟨n + 1, _, _, _, ?_, h2⟩
    rw [lcode, lcode_mono (lcall_le (by omega)) n n (by omega) _ _ _ _ h1]

/-- A loop: something kept, and something that falls. -/
def qLoop {σ : Type} (I : σ → Env → Heap → Prop) (m : σ → Nat) (s : σ) (Q : Ex → Env → Heap → Prop) : Ex → Env → Heap → Prop
  | .normal, e, H => ∃ s', I s' e H ∧ m s' < m s
  | x, e, H => Q x e H

theorem WC.loop {σ : Type} (I : σ → Env → Heap → Prop) (m : σ → Nat) {a e H Q} (s : σ) (h0 : I s e H) (step : ∀ s e H, I s e H → WC P C a e H (qLoop I m s Q)) : WC P C (.loop a) e H Q := by
  have key : ∀ k s e H, m s < k → I s e H → WC P C (.loop a) e H Q := by
    intro k
    induction k with
    | zero => intro s e H h; omega
    | succ k ih =>
      intro s e H hk hI
      refine WC.loop1 ((step s e H hI).mono ?_)
      intro x e' H' hx
      cases x with
      | normal =>
        obtain ⟨s', h1, h2⟩ := hx
        exact ih s' e' H' (by omega) h1
      | exit i => exact hx
      | ret => exact hx
  exact key (m s + 1) s e H (by omega) h0

theorem WC.region {id ops e H Q} (h : WO P C ops ops.toList e H (Q .normal)) : WC P C (.region id ops false) e H Q := by
  obtain ⟨n, e', H', h1, h2⟩ := h
  exact ⟨n + 1, _, _, _, by rw [lcode, lops_mono (lcall_le (Nat.le_succ n)) _ _ _ _ _ h1]; rfl, h2⟩
theorem WC.regionD {id ops e H Q} (h : WD P C ops 0 ops.toList e H {} (Q .normal)) : WC P C (.region id ops true) e H Q := by
  obtain ⟨n, e', H', h1, h2⟩ := h
  exact ⟨n + 1, _, _, _, by rw [lcode, lopsD_mono (lcall_le (Nat.le_succ n)) _ _ _ _ _ _ _ h1]; rfl, h2⟩

theorem WF.at {f g : FuncId} {args : List AV} {H : Heap} {Q : AV → Heap → Prop} : WF P (C.at f) g args H Q = WF P C g args H Q := by
  unfold WF
  simp only [lcall_at]

theorem WF.call {f args H Q} {fn : Func} {c : Code} (he : C.ext f = none) (hok : C.ok f = true) (hf : P.funcs[f]? = some fn) (hb : fn.body = some c)
    (h : WC P (C.at f) c (env0 args) H (fun x e H' => (∀ i, x ≠ .exit i) ∧ ∃ a, resultsA P fn e H' = some a ∧ Q a H')) : WF P C f args H Q := by
  obtain ⟨n, x, e', H', h1, h2, a, h3, h4⟩ := h
  rw [lcall_at] at h1
  refine ⟨n + 1, a, H', ?_, h4⟩
  rw [lcall, he]
  simp only [if_pos hok, hf, hb, h1]
  cases x with
  | exit i => exact absurd rfl (h2 i)
  | normal => simp [h3]
  | ret => simp [h3]

theorem WF.ext {f args H Q g r H'} (he : C.ext f = some g) (h : g args H = some (r, H')) (hq : Q r H') : WF P C f args H Q :=
  ⟨1, r, H', by rw [lcall, he]; exact h, hq⟩

/-! ### Operations -/
theorem WO.nil {all e H Q} (h : Q e H) : WO P C all [] e H Q := ⟨0, _, _, rfl, h⟩
theorem WO.step {all o r e H Q} (hw : wants all e o = some true) (h : WS P C o.dst e H o.op (fun a H' => WO P C all r (put e o.dst a) H' Q)) : WO P C all (o :: r) e H Q := by
  obtain ⟨n, a, H', h1, m, e2, H2, h2, h3⟩ := h
  refine ⟨max m n, e2, H2, ?_, h3⟩
  rw [lops, hw]
  simp only [stepA_mono (lcall_le (Nat.le_max_right m n)) h1, Option.bind_some]
  exact lops_mono (lcall_le (Nat.le_max_left m n)) _ _ _ _ _ h2
theorem WO.pass {all o r e H Q} (hw : wants all e o = some false) (h : WO P C all r (put e o.dst skipA) H Q) : WO P C all (o :: r) e H Q := by
  obtain ⟨n, e2, H2, h2, h3⟩ := h
  refine ⟨n, e2, H2, ?_, h3⟩
  rw [lops, hw]
  exact h2
theorem WD.nil {all i e H S Q} (h : Q e H) : WD P C all i [] e H S Q := ⟨0, _, _, rfl, h⟩
theorem WD.pass {all i o r e H S Q} (hw : wants all e o = some false) (h : WD P C all (i + 1) r (put e o.dst skipA) H S Q) : WD P C all i (o :: r) e H S Q := by
  obtain ⟨n, e2, H2, h2, h3⟩ := h
  refine ⟨n, e2, H2, ?_, h3⟩
  rw [lopsD, hw]
  exact h2
theorem WD.step {all i o r e H S Q} (hw : wants all e o = some true) (h : WS P C o.dst e H o.op (fun a H' => ∃ S', seenOK P all i e S o.op a H H' = some S' ∧ WD P C all (i + 1) r (put e o.dst a) H' S' Q)) : WD P C all i (o :: r) e H S Q := by
  obtain ⟨n, a, H', h1, S', h0, m, e2, H2, h2, h3⟩ := h
  refine ⟨max m n, e2, H2, ?_, h3⟩
  rw [lopsD, hw]
  simp only [stepA_mono (lcall_le (Nat.le_max_right m n)) h1, Option.bind_some, h0]
  exact lopsD_mono (lcall_le (Nat.le_max_left m n)) _ _ _ _ _ _ _ h2
end

end Go.Lv
set_option linter.unusedVariables false
set_option linter.unusedSimpArgs false
/-! The rules of stepping as equations, for rewriting. -/
namespace Go.Lv

/-- A box that rewriting does not look into. -/
class K (α : Sort _) where
  v : α

def bindP {α : Type} (x : Option α) [k : K (α → Prop)] : Prop := ∃ a, x = some a ∧ k.v a
@[go_sem] theorem bindP_some {α : Type} {a : α} {k : α → Prop} : @bindP α (some a) ⟨k⟩ = k a := by simp [bindP]
@[go_sem] theorem bindP_none {α : Type} {k : K (α → Prop)} : @bindP α none k = False := by simp [bindP]

def ifP (c : Prop) [A : K Prop] [B : K Prop] : Prop := (c → A.v) ∧ (¬ c → B.v)
@[go_sem] theorem ifP_true {A : Prop} {B : K Prop} : @ifP True ⟨A⟩ B = A := by simp [ifP]
@[go_sem] theorem ifP_false {A : K Prop} {B : Prop} : @ifP False A ⟨B⟩ = B := by simp [ifP]
theorem ifP_in {c A B : Prop} (h1 : c → A) (h2 : ¬ c → B) : @ifP c ⟨A⟩ ⟨B⟩ := ⟨h1, h2⟩
@[go_sem] theorem ifP_pos {c A : Prop} {B : K Prop} (h : c) : @ifP c ⟨A⟩ B = A := by simp [ifP, h]
@[go_sem] theorem ifP_neg {c B : Prop} {A : K Prop} (h : ¬ c) : @ifP c A ⟨B⟩ = B := by simp [ifP, h]

def condP (a : AV) [A : K Prop] [B : K Prop] : Prop := ∃ t : Bool, a = .b t ∧ (if t = true then A.v else B.v)
@[go_sem] theorem condP_b {t : Bool} {A B : K Prop} : @condP (.v (.bool t)) A B = @ifP (t = true) A B := by cases t <;> simp [condP, ifP]

def guardP (a : AV) (w : Bool) [A : K Prop] [B : K Prop] : Prop := (∃ t : Bool, a = .b t ∧ (if t = w then A.v else B.v)) ∨ (a = skipA ∧ B.v)
@[go_sem] theorem guardP_b {t w : Bool} {A B : K Prop} : @guardP (.v (.bool t)) w A B = @ifP (t = w) A B := by cases t <;> cases w <;> simp [guardP, ifP, skipA]
@[go_sem] theorem guardP_skip {w : Bool} {A : K Prop} {B : Prop} : @guardP skipA w A ⟨B⟩ = B := by simp [guardP, skipA]

def guardW (all : Array Oper) (e : Env) (j : Nat) : AV := (((all[j]?).bind (·.dst)).map e).getD .un
def guardV (e : Env) (j : Nat) [all : K (Array Oper)] : AV := guardW all.v e j
@[go_sem] theorem guardV_zero {d : Nat} {op ty pos after g} {l : List Oper} {e : Env} : @guardV e 0 ⟨List.toArray ({ dst := some d, op := op, type := ty, pos := pos, after := after, guard := g } :: l)⟩ = e d := by simp [guardV, guardW]
@[go_sem] theorem guardV_succ {o : Oper} {l : List Oper} {e : Env} {n : Nat} : @guardV e (n + 1) ⟨List.toArray (o :: l)⟩ = @guardV e n ⟨List.toArray l⟩ := by simp [guardV, guardW]

section
variable {P : Program} {C : Cfg}


/-! ### Code -/
theorem lcode_det {n m : Nat} {c : Code} {e : Env} {H : Heap} {x y} (h1 : lcode P C (lcall P C n) n c e H = some x) (h2 : lcode P C (lcall P C m) m c e H = some y) : x = y := by
  have h3 := lcode_mono (lcall_le (Nat.le_max_left n m)) n (max n m) (Nat.le_max_left n m) _ _ _ _ h1
  have h4 := lcode_mono (lcall_le (Nat.le_max_right n m)) m (max n m) (Nat.le_max_right n m) _ _ _ _ h2
  rw [h3] at h4; injection h4

theorem WC_skip {e : Env} {H : Heap} {Q : Ex → Env → Heap → Prop} : WC P C .skip e H Q = Q .normal e H :=
  propext ⟨fun ⟨n, x, e', H', h, hq⟩ => by cases n with | zero => cases h | succ n => injection h with h; injection h with h1 h; injection h with h2 h3; subst h1; subst h2; subst h3; exact hq, .skip⟩
theorem WC_exit {id : Nat} {e : Env} {H : Heap} {Q : Ex → Env → Heap → Prop} : WC P C (.exit id) e H Q = Q (.exit id) e H :=
  propext ⟨fun ⟨n, x, e', H', h, hq⟩ => by cases n with | zero => cases h | succ n => injection h with h; injection h with h1 h; injection h with h2 h3; subst h1; subst h2; subst h3; exact hq, .exit⟩
theorem WC_ret {e : Env} {H : Heap} {Q : Ex → Env → Heap → Prop} : WC P C .ret e H Q = Q .ret e H :=
  propext ⟨fun ⟨n, x, e', H', h, hq⟩ => by cases n with | zero => cases h | succ n => injection h with h; injection h with h1 h; injection h with h2 h3; subst h1; subst h2; subst h3; exact hq, .ret⟩

theorem lc_up {n k : Nat} (hk : n ≤ k) {c e H y} (h : lcode P C (lcall P C n) n c e H = some y) : lcode P C (lcall P C k) k c e H = some y := lcode_mono (lcall_le hk) n k hk _ _ _ _ h
theorem lc_up' {n k : Nat} {m : Nat} (hm : m ≤ k) (hk : n ≤ k) {c e H y} (h : lcode P C (lcall P C n) m c e H = some y) : lcode P C (lcall P C k) k c e H = some y := lcode_mono (lcall_le hk) m k hm _ _ _ _ h

theorem WC_seq {a b : Code} {e : Env} {H : Heap} {Q : Ex → Env → Heap → Prop} : WC P C (.seq a b) e H Q = WC P C a e H (qSeq P C b Q) := by
  refine propext ⟨fun ⟨n, x, e', H', h, hq⟩ => ?_, .seq⟩
  cases n with
  | zero => cases h
  | succ n =>
    simp only [lcode] at h
    split at h
    · rename_i e1 H1 h1
      exact ⟨n + 1, _, _, _, lc_up' (Nat.le_succ n) (Nat.le_refl _) h1, n + 1, _, _, _, lc_up' (Nat.le_succ n) (Nat.le_refl _) h, hq⟩
    · rename_i hne
      refine ⟨n + 1, _, _, _, lc_up' (Nat.le_succ n) (Nat.le_refl _) h, ?_⟩
      cases x with
      | normal => exact absurd h (hne _ _)
      | exit i => exact hq
      | ret => exact hq
theorem WC_block {id : Nat} {a : Code} {e : Env} {H : Heap} {Q : Ex → Env → Heap → Prop} : WC P C (.block id a) e H Q = WC P C a e H (qBlock id Q) := by
  refine propext ⟨fun ⟨n, x, e', H', h, hq⟩ => ?_, .block⟩
  cases n with
  | zero => cases h
  | succ n =>
    simp only [lcode] at h
    split at h
    · rename_i i e1 H1 h1
      refine ⟨n + 1, _, _, _, lc_up' (Nat.le_succ n) (Nat.le_refl _) h1, ?_⟩
      simp only [qBlock]
      split at h
      · rename_i hi; rw [if_pos hi]; injection h with h; injection h with h1 h; injection h with h2 h3; subst h1; subst h2; subst h3; exact hq
      · rename_i hi; rw [if_neg hi]; injection h with h; injection h with h1 h; injection h with h2 h3; subst h1; subst h2; subst h3; exact hq
    · rename_i hne
      refine ⟨n + 1, _, _, _, lc_up' (Nat.le_succ n) (Nat.le_refl _) h, ?_⟩
      cases x with
      | normal => exact hq
      | exit i => exact absurd h (hne _ _ _)
      | ret => exact hq
theorem WC_cond {c : Operand} {a b : Code} {e : Env} {H : Heap} {Q : Ex → Env → Heap → Prop} : WC P C (.cond c a b) e H Q = @condP (ev e c) ⟨WC P C a e H Q⟩ ⟨WC P C b e H Q⟩ := by
  refine propext ⟨fun ⟨n, x, e', H', h, hq⟩ => ?_, fun ⟨t, h1, h2⟩ => .cond t h1 (fun h => by subst h; simpa using h2) (fun h => by subst h; simpa using h2)⟩
  cases n with
  | zero => cases h
  | succ n =>
    simp only [lcode] at h
    split at h
    · rename_i t ht
      refine ⟨t, ht, ?_⟩
      cases t with
      | true => exact ⟨n + 1, _, _, _, lc_up' (Nat.le_succ n) (Nat.le_refl _) (by simpa using h), hq⟩
      | false => exact ⟨n + 1, _, _, _, lc_up' (Nat.le_succ n) (Nat.le_refl _) (by simpa using h), hq⟩
    · cases h
theorem WC_region {id : Nat} {l : List Oper} {e : Env} {H : Heap} {Q : Ex → Env → Heap → Prop} : WC P C (.region id (List.toArray l) false) e H Q = WO P C (List.toArray l) l e H (Q .normal) := by
  refine propext ⟨fun ⟨n, x, e', H', h, hq⟩ => ?_, fun h => .region h⟩
  cases n with
  | zero => cases h
  | succ n =>
    simp only [lcode] at h
    obtain ⟨⟨e1, H1⟩, h1, h2⟩ := Option.map_eq_some_iff.1 h
    injection h2 with h3 h; injection h with h4 h5; subst h3; subst h4; subst h5
    exact ⟨_, _, _, h1, hq⟩
theorem WC_regionD {id : Nat} {l : List Oper} {e : Env} {H : Heap} {Q : Ex → Env → Heap → Prop} : WC P C (.region id (List.toArray l) true) e H Q = WD P C (List.toArray l) 0 l e H { snaps := [], loads := [] } (Q .normal) := by
  refine propext ⟨fun ⟨n, x, e', H', h, hq⟩ => ?_, fun h => .regionD h⟩
  cases n with
  | zero => cases h
  | succ n =>
    simp only [lcode] at h
    obtain ⟨⟨e1, H1⟩, h1, h2⟩ := Option.map_eq_some_iff.1 h
    injection h2 with h3 h; injection h with h4 h5; subst h3; subst h4; subst h5
    exact ⟨_, _, _, h1, hq⟩

theorem qSeq_normal {b : Code} {Q : Ex → Env → Heap → Prop} {e : Env} {H : Heap} : qSeq P C b Q .normal e H = WC P C b e H Q := rfl
theorem qSeq_exit {b : Code} {Q : Ex → Env → Heap → Prop} {i : Nat} {e : Env} {H : Heap} : qSeq P C b Q (.exit i) e H = Q (.exit i) e H := rfl
theorem qSeq_ret {b : Code} {Q : Ex → Env → Heap → Prop} {e : Env} {H : Heap} : qSeq P C b Q .ret e H = Q .ret e H := rfl
theorem qBlock_normal {id : Nat} {Q : Ex → Env → Heap → Prop} {e : Env} {H : Heap} : qBlock id Q .normal e H = Q .normal e H := rfl
theorem qBlock_exit {id i : Nat} {Q : Ex → Env → Heap → Prop} {e : Env} {H : Heap} : qBlock id Q (.exit i) e H = @ifP (i = id) ⟨Q .normal e H⟩ ⟨Q (.exit i) e H⟩ := by
  by_cases h : i = id <;> simp [qBlock, ifP, h]
theorem qBlock_ret {id : Nat} {Q : Ex → Env → Heap → Prop} {e : Env} {H : Heap} : qBlock id Q .ret e H = Q .ret e H := rfl
theorem qLoop_exit {σ : Type} {I : σ → Env → Heap → Prop} {m : σ → Nat} {s : σ} {Q : Ex → Env → Heap → Prop} {i : Nat} {e : Env} {H : Heap} : qLoop I m s Q (.exit i) e H = Q (.exit i) e H := rfl
theorem qLoop_ret {σ : Type} {I : σ → Env → Heap → Prop} {m : σ → Nat} {s : σ} {Q : Ex → Env → Heap → Prop} {e : Env} {H : Heap} : qLoop I m s Q .ret e H = Q .ret e H := rfl

/-- A function's end. -/
def qFn (P : Program) (fn : Func) (Q : AV → Heap → Prop) : Ex → Env → Heap → Prop
  | .exit _, _, _ => False
  | _, e, H => ∃ a, resultsA P fn e H = some a ∧ Q a H
def resV (P : Program) (rs : Array ResultVar) (e : Env) (H : Heap) : Option AV :=
  match rs.toList.mapM (resA P e H) with
  | some [a] => some a
  | some as_ => some (.tup as_)
  | none => none
theorem qFn_ret {fn : Func} {Q : AV → Heap → Prop} {e : Env} {H : Heap} : qFn P fn Q .ret e H = @bindP _ (resV P fn.results e H) ⟨fun a => Q a H⟩ := rfl
theorem qFn_normal {fn : Func} {Q : AV → Heap → Prop} {e : Env} {H : Heap} : qFn P fn Q .normal e H = @bindP _ (resV P fn.results e H) ⟨fun a => Q a H⟩ := rfl
@[go_sem] theorem resV_0 {e : Env} {H : Heap} : resV P #[] e H = some (.tup []) := by simp [resV]
@[go_sem] theorem resV_1 {a : Nat} {e : Env} {H : Heap} : resV P #[.tmp a] e H = some (e a) := by simp [resV, resA]
@[go_sem] theorem resV_2 {a b : Nat} {e : Env} {H : Heap} : resV P #[.tmp a, .tmp b] e H = some (.tup [e a, e b]) := by simp [resV, resA]
@[go_sem] theorem resV_3 {a b c : Nat} {e : Env} {H : Heap} : resV P #[.tmp a, .tmp b, .tmp c] e H = some (.tup [e a, e b, e c]) := by simp [resV, resA]
@[go_sem] theorem resV_4 {a b c d : Nat} {e : Env} {H : Heap} : resV P #[.tmp a, .tmp b, .tmp c, .tmp d] e H = some (.tup [e a, e b, e c, e d]) := by simp [resV, resA]
@[go_sem] theorem resV_5 {a b c d f : Nat} {e : Env} {H : Heap} : resV P #[.tmp a, .tmp b, .tmp c, .tmp d, .tmp f] e H = some (.tup [e a, e b, e c, e d, e f]) := by simp [resV, resA]
@[go_sem] theorem resV_c {a t : Nat} {e : Env} {H : Heap} : resV P #[.cell a t] e H = loadA P H t (e a) := by
  cases h : loadA P H t (e a) <;> simp [resV, resA, h]

theorem WF_fn {f args H Q} {fn : Func} {c : Code} (he : C.ext f = none) (hok : C.ok f = true) (hf : P.funcs[f]? = some fn) (hb : fn.body = some c) (h : WC P (C.at f) c (env0 args) H (qFn P fn Q)) : WF P C f args H Q := by
  refine WF.call he hok hf hb (h.mono fun x e' H' hx => ?_)
  cases x with
  | exit i => exact hx.elim
  | normal => obtain ⟨a, h1, h2⟩ := hx; exact ⟨(by simp), a, h1, h2⟩
  | ret => obtain ⟨a, h1, h2⟩ := hx; exact ⟨(by simp), a, h1, h2⟩

/-! ### Operations -/
theorem lops_up {n k : Nat} (hk : n ≤ k) {all l e H y} (h : lops P C (lcall P C n) all l e H = some y) : lops P C (lcall P C k) all l e H = some y := lops_mono (lcall_le hk) _ _ _ _ _ h
theorem WO_nil {all : Array Oper} {e : Env} {H : Heap} {Q : Env → Heap → Prop} : WO P C all [] e H Q = Q e H :=
  propext ⟨fun ⟨n, e', H', h, hq⟩ => by injection h with h; injection h with h1 h2; subst h1; subst h2; exact hq, .nil⟩
theorem WO_cons {all : Array Oper} {d : Option Nat} {op : Op} {ty pos after} {r : List Oper} {e : Env} {H : Heap} {Q : Env → Heap → Prop} :
    WO P C all ({ dst := d, op := op, type := ty, pos := pos, after := after, guard := none } :: r) e H Q = WS P C d e H op (fun a H' => WO P C all r (put e d a) H' Q) := by
  refine propext ⟨fun ⟨n, e', H', h, hq⟩ => ?_, fun h => .step rfl h⟩
  obtain ⟨⟨a, H1⟩, h1, h2⟩ := Option.bind_eq_some_iff.1 h
  exact ⟨n, a, H1, h1, n, e', H', h2, hq⟩
theorem WO_guard {all : Array Oper} {d : Option Nat} {op : Op} {ty pos after} {j : Nat} {w : Bool} {r : List Oper} {e : Env} {H : Heap} {Q : Env → Heap → Prop} :
    WO P C all ({ dst := d, op := op, type := ty, pos := pos, after := after, guard := some (j, w) } :: r) e H Q =
      @guardP (guardW all e j) w ⟨WS P C d e H op (fun a H' => WO P C all r (put e d a) H' Q)⟩ ⟨WO P C all r (put e d skipA) H Q⟩ := by
  have hw : wants all e { dst := d, op := op, type := ty, pos := pos, after := after, guard := some (j, w) } = match guardW all e j with | .v (.bool b) => some (b == w) | .tup xs => if xs.isEmpty = true then some false else none | _ => none := by
    unfold wants guardW
    simp only
    cases (all[j]?).bind (·.dst) <;> rfl
  refine propext ⟨fun ⟨n, e', H', h, hq⟩ => ?_, fun hh => ?_⟩
  · unfold lops at h
    rw [hw] at h
    cases hg : guardW all e j with
    | v x =>
      rw [hg] at h
      cases x with
      | bool t =>
        simp only at h
        refine .inl ⟨t, rfl, ?_⟩
        by_cases htw : t = w
        · subst htw
          simp only [beq_self_eq_true] at h
          obtain ⟨⟨a, H1⟩, h1, h2⟩ := Option.bind_eq_some_iff.1 h
          rw [if_pos rfl]
          exact ⟨n, a, H1, h1, n, e', H', h2, hq⟩
        · rw [show (t == w) = false from by simp [htw]] at h
          rw [if_neg htw]
          exact ⟨n, e', H', h, hq⟩
      | _ => cases h
    | tup xs =>
      rw [hg] at h
      cases xs with
      | nil => exact .inr ⟨rfl, n, e', H', h, hq⟩
      | cons x xs => cases h
    | _ => rw [hg] at h; cases h
  · rcases hh with ⟨t, ht, h⟩ | ⟨ht, h⟩
    · rw [ht] at hw
      by_cases htw : t = w
      · rw [if_pos htw] at h
        exact .step (by rw [hw]; simp [htw]) h
      · rw [if_neg htw] at h
        exact .pass (by rw [hw]; simp [htw]) h
    · rw [ht] at hw
      exact .pass (by rw [hw]; rfl) h
theorem WD_nil {all : Array Oper} {i : Nat} {e : Env} {H : Heap} {S : Seen} {Q : Env → Heap → Prop} : WD P C all i [] e H S Q = Q e H :=
  propext ⟨fun ⟨n, e', H', h, hq⟩ => by injection h with h; injection h with h1 h2; subst h1; subst h2; exact hq, .nil⟩
theorem WD_cons {all : Array Oper} {i : Nat} {d : Option Nat} {op : Op} {ty pos after} {r : List Oper} {e : Env} {H : Heap} {S : Seen} {Q : Env → Heap → Prop} :
    WD P C all i ({ dst := d, op := op, type := ty, pos := pos, after := after, guard := none } :: r) e H S Q = WS P C d e H op (fun a H' => @bindP _ (seenOK P all i e S op a H H') ⟨fun S' => WD P C all (i + 1) r (put e d a) H' S' Q⟩) := by
  refine propext ⟨fun ⟨n, e', H', h, hq⟩ => ?_, fun h => .step rfl h⟩
  unfold lopsD at h
  simp only [wants] at h
  obtain ⟨⟨a, H1⟩, h1, h2⟩ := Option.bind_eq_some_iff.1 h
  obtain ⟨S', h3, h4⟩ := Option.bind_eq_some_iff.1 h2
  exact ⟨n, a, H1, h1, S', h3, n, e', H', h4, hq⟩
theorem WD_guard {all : Array Oper} {i : Nat} {d : Option Nat} {op : Op} {ty pos after} {j : Nat} {w : Bool} {r : List Oper} {e : Env} {H : Heap} {S : Seen} {Q : Env → Heap → Prop} :
    WD P C all i ({ dst := d, op := op, type := ty, pos := pos, after := after, guard := some (j, w) } :: r) e H S Q =
      @guardP (guardW all e j) w ⟨WS P C d e H op (fun a H' => @bindP _ (seenOK P all i e S op a H H') ⟨fun S' => WD P C all (i + 1) r (put e d a) H' S' Q⟩)⟩ ⟨WD P C all (i + 1) r (put e d skipA) H S Q⟩ := by
  have hw : wants all e { dst := d, op := op, type := ty, pos := pos, after := after, guard := some (j, w) } = match guardW all e j with | .v (.bool b) => some (b == w) | .tup xs => if xs.isEmpty = true then some false else none | _ => none := by
    unfold wants guardW
    simp only
    cases (all[j]?).bind (·.dst) <;> rfl
  refine propext ⟨fun ⟨n, e', H', h, hq⟩ => ?_, fun hh => ?_⟩
  · unfold lopsD at h
    rw [hw] at h
    cases hg : guardW all e j with
    | v x =>
      rw [hg] at h
      cases x with
      | bool t =>
        simp only at h
        refine .inl ⟨t, rfl, ?_⟩
        by_cases htw : t = w
        · subst htw
          simp only [beq_self_eq_true] at h
          obtain ⟨⟨a, H1⟩, h1, h2⟩ := Option.bind_eq_some_iff.1 h
          obtain ⟨S', h3, h4⟩ := Option.bind_eq_some_iff.1 h2
          rw [if_pos rfl]
          exact ⟨n, a, H1, h1, S', h3, n, e', H', h4, hq⟩
        · rw [show (t == w) = false from by simp [htw]] at h
          rw [if_neg htw]
          exact ⟨n, e', H', h, hq⟩
      | _ => cases h
    | tup xs =>
      rw [hg] at h
      cases xs with
      | nil => exact .inr ⟨rfl, n, e', H', h, hq⟩
      | cons x xs => cases h
    | _ => rw [hg] at h; cases h
  · rcases hh with ⟨t, ht, h⟩ | ⟨ht, h⟩
    · rw [ht] at hw
      by_cases htw : t = w
      · rw [if_pos htw] at h
        exact .step (by rw [hw]; simp [htw]) h
      · rw [if_neg htw] at h
        exact .pass (by rw [hw]; simp [htw]) h
    · rw [ht] at hw
      exact .pass (by rw [hw]; rfl) h

/-! ### What an operation gives -/
theorem stepA_plain {c : CallF} {d : Option Nat} {e : Env} {H : Heap} {o : Op} (he : C.spec d o = false) : stepA P C c d e H o = stepB P C c e H o := by
  unfold stepA
  rw [if_neg (by rw [he]; simp)]
theorem spec_none {C : Cfg} {d : Option Nat} {o : Op} (h1 : muOp o = false) (h2 : fzOp o = false) (h3 : tkOp o = false := by rfl) : C.spec d o = false := by
  unfold Cfg.spec; rw [h1, h2, h3]; simp
theorem spec_both {C : Cfg} {d : Option Nat} {o : Op} (h1 : muOp o = true) (h2 : fzOp o = false) (h3 : tkOp o = true) : C.spec d o = (C.isMu d || C.isTk d) := by
  unfold Cfg.spec; rw [h1, h2, h3]; simp
theorem spec_mu {C : Cfg} {d : Option Nat} {o : Op} (h1 : muOp o = true) (h2 : fzOp o = false) (h3 : tkOp o = false) : C.spec d o = C.isMu d := by
  unfold Cfg.spec; rw [h1, h2, h3]; simp
theorem spec_fz {C : Cfg} {d : Option Nat} {o : Op} (h1 : muOp o = false) (h2 : fzOp o = true) (h3 : tkOp o = false) : C.spec d o = C.isFz d := by
  unfold Cfg.spec; rw [h1, h2, h3]; simp
theorem WS_opA {d : Option Nat} {e : Env} {H : Heap} {o : Op} {Q : AV → Heap → Prop} (he : C.spec d o = false) (h : ∀ c, stepB P C c e H o = opA P e H o) : WS P C d e H o Q = @bindP _ (opA P e H o) ⟨fun p => Q p.1 p.2⟩ :=
  propext ⟨fun ⟨n, a, H', h1, hq⟩ => ⟨(a, H'), by rw [← h, ← stepA_plain he]; exact h1, hq⟩, fun ⟨⟨a, H'⟩, h1, hq⟩ => ⟨0, a, H', by rw [stepA_plain he, h]; exact h1, hq⟩⟩
theorem WS_mu {d : Option Nat} {e : Env} {H : Heap} {o : Op} {Q : AV → Heap → Prop} (hm : C.spec d o = true) (ht : C.isTk d = false) : WS P C d e H o Q = @bindP _ (muA P e H o) ⟨fun p => Q p.1 p.2⟩ := by
  have h : ∀ c, stepA P C c d e H o = muA P e H o := fun c => by unfold stepA; rw [if_pos hm, ht]; rfl
  exact propext ⟨fun ⟨n, a, H', h1, hq⟩ => ⟨(a, H'), by rw [← h]; exact h1, hq⟩, fun ⟨⟨a, H'⟩, h1, hq⟩ => ⟨0, a, H', by rw [h]; exact h1, hq⟩⟩
theorem WS_tk {d : Option Nat} {e : Env} {H : Heap} {o : Op} {Q : AV → Heap → Prop} (hm : C.spec d o = true) (ht : C.isTk d = true) : WS P C d e H o Q = @bindP _ (tkA P e H o) ⟨fun p => Q p.1 p.2⟩ := by
  have h : ∀ c, stepA P C c d e H o = tkA P e H o := fun c => by unfold stepA; rw [if_pos hm, if_pos ht]
  exact propext ⟨fun ⟨n, a, H', h1, hq⟩ => ⟨(a, H'), by rw [← h]; exact h1, hq⟩, fun ⟨⟨a, H'⟩, h1, hq⟩ => ⟨0, a, H', by rw [h]; exact h1, hq⟩⟩
theorem WS_pure {d : Option Nat} {e : Env} {H : Heap} {o : Op} {x : Option AV} {Q : AV → Heap → Prop} (he : C.spec d o = false) (h : ∀ c, stepB P C c e H o = x.map fun a => (a, H)) : WS P C d e H o Q = @bindP _ x ⟨fun a => Q a H⟩ := by
  refine propext ⟨fun ⟨n, a, H', h1, hq⟩ => ?_, fun ⟨a, h1, hq⟩ => ⟨0, a, H, by rw [stepA_plain he, h, h1]; rfl, hq⟩⟩
  rw [stepA_plain he, h] at h1
  obtain ⟨b, h2, h3⟩ := Option.map_eq_some_iff.1 h1
  injection h3 with h4 h5; subst h4; subst h5
  exact ⟨_, h2, hq⟩
variable {d : Option Nat}
variable {e : Env} {H : Heap} {Q : AV → Heap → Prop}
theorem WS_move {x : Operand} : WS P C d e H (.move x) Q = Q (ev e x) H := by rw [WS_pure (x := some (ev e x)) (spec_none rfl rfl) (fun _ => rfl), bindP_some]
theorem WS_assign {x : Operand} (hm : C.spec d (.assign x) = false) : WS P C d e H (.assign x) Q = Q (ev e x) H := by rw [WS_pure (x := some (ev e x)) hm (fun _ => rfl), bindP_some]
def pickA : AV → AV → AV → Option AV
  | .v (.bool t), a, b => some (bif t then a else b)
  | _, _, _ => none
@[go_sem] theorem pickA_true {a b : AV} : pickA (.v (.bool true)) a b = some a := rfl
@[go_sem] theorem pickA_false {a b : AV} : pickA (.v (.bool false)) a b = some b := rfl
@[go_sem] theorem pickA_pos {p : Prop} [Decidable p] {a b : AV} (h : p) : pickA (.v (.bool (decide p))) a b = some a := by simp [pickA, h]
@[go_sem] theorem pickA_neg {p : Prop} [Decidable p] {a b : AV} (h : ¬ p) : pickA (.v (.bool (decide p))) a b = some b := by simp [pickA, h]
theorem pickA_b {t a b : Bool} : pickA (.v (.bool t)) (.v (.bool a)) (.v (.bool b)) = some (.v (.bool (bif t then a else b))) := by cases t <;> rfl
theorem WS_pick {c a b : Operand} : WS P C d e H (.pick c a b) Q = @bindP _ (pickA (ev e c) (ev e a) (ev e b)) ⟨fun v => Q v H⟩ := by
  refine WS_pure (spec_none rfl rfl) fun _ => ?_
  show (match ev e c with | .v (.bool t) => some (bif t then ev e a else ev e b, H) | _ => none) = _
  generalize ev e c = x
  cases x with
  | v x => cases x <;> rfl
  | _ => rfl
theorem WS_alloc {t : TypeId} : WS P C d e H (.alloc t) Q = @bindP _ (zeroA P t) ⟨fun z => Q (.ptr H.length 0) (H ++ [z])⟩ := by
  rw [WS_opA (spec_none rfl rfl) (fun _ => rfl)]
  show @bindP (AV × Heap) ((zeroA P t).map fun z => (AV.ptr H.length 0, H ++ [z])) ⟨fun p => Q p.1 p.2⟩ = _
  cases zeroA P t <;> simp [bindP]
theorem WS_box {t : TypeId} {x : Operand} : WS P C d e H (.box t x) Q = @bindP _ (if (evX e x).cells.all AV.one = true then some (evX e x).cells else none) ⟨fun z => Q (.ptr H.length 0) (H ++ [z])⟩ := by
  rw [WS_opA (spec_none rfl rfl) (fun _ => rfl)]
  show @bindP (AV × Heap) (if (evX e x).cells.all AV.one = true then some (AV.ptr H.length 0, H ++ [(evX e x).cells]) else none) ⟨fun p => Q p.1 p.2⟩ = _
  by_cases h : (evX e x).cells.all AV.one = true
  · simp only [if_pos h, bindP_some]
  · simp only [if_neg h]; simp [bindP]
theorem WS_build {t : TypeId} {parts : List (Nat × Operand)} : WS P C d e H (.build t (List.toArray parts)) Q = @bindP _ (buildA P t (parts.map fun p => (p.1, evX e p.2))) ⟨fun a => Q a H⟩ := WS_pure (spec_none rfl rfl) fun _ => rfl
theorem WS_buildSlice {t : TypeId} {n : Nat} {parts : List (Nat × Operand)} : WS P C d e H (.buildSlice t n (List.toArray parts)) Q = @bindP _ (buildSliceA P t n (parts.map fun p => (p.1, ev e p.2))) ⟨fun a => Q a H⟩ := WS_pure (spec_none rfl rfl) fun _ => rfl
theorem WS_load {t : TypeId} {x : Operand} : WS P C d e H (.load t x) Q = @bindP _ (loadA P H t (ev e x)) ⟨fun a => Q a H⟩ := WS_pure (spec_none rfl rfl) fun _ => rfl
theorem WS_store {t : TypeId} {p x : Operand} : WS P C d e H (.store t p x) Q = @bindP _ (storeA P H t (ev e p) (evX e x)) ⟨fun H' => Q .un H'⟩ := by
  rw [WS_opA (spec_none rfl rfl) (fun _ => rfl)]
  show @bindP (AV × Heap) ((storeA P H t (ev e p) (evX e x)).map fun H' => (AV.un, H')) ⟨fun p => Q p.1 p.2⟩ = _
  cases storeA P H t (ev e p) (evX e x) <;> simp [bindP]
theorem WS_nilCheck {x : Operand} : WS P C d e H (.nilCheck x) Q = @bindP _ (match ev e x with | .ptr j off => some (AV.ptr j off) | _ => none) ⟨fun a => Q a H⟩ := by
  refine WS_pure (spec_none rfl rfl) fun _ => ?_
  show (match ev e x with | .ptr j off => some (AV.ptr j off, H) | _ => none) = _
  generalize ev e x = y
  cases y <;> rfl
theorem WS_binOp {op : BinOp} {xt yt : TypeId} {x y : Operand} : WS P C d e H (.binOp op xt x y yt) Q = @bindP _ (bin P op xt (ev e x) (ev e y)) ⟨fun a => Q a H⟩ := WS_pure (spec_none rfl rfl) fun _ => rfl
theorem WS_unOp {op : UnOp} {t : TypeId} {x : Operand} : WS P C d e H (.unOp op t x) Q = @bindP _ (un1 op (ev e x)) ⟨fun a => Q a H⟩ := WS_pure (spec_none rfl rfl) fun _ => rfl
theorem WS_convert {s u : TypeId} {x : Operand} : WS P C d e H (.convert s u x) Q = @bindP _ (conv P s u (plainA (ev e x))) ⟨fun a => Q a H⟩ := WS_pure (spec_none rfl rfl) fun _ => rfl
theorem WS_slice {t : TypeId} {x : Operand} {lo hi mx : Option Operand} : WS P C d e H (.slice t x lo hi mx) Q = @bindP _ (sliceA P t (owA (ev e x)) (lo.map (ev e)) (hi.map (ev e)) (mx.map (ev e))) ⟨fun a => Q a H⟩ := WS_pure (spec_none rfl rfl) fun _ => rfl
theorem WS_fieldAddr {s : TypeId} {x : Operand} {f : Nat} : WS P C d e H (.fieldAddr s x f) Q = @bindP _ (fieldAddrA P s (ev e x) f) ⟨fun a => Q a H⟩ := WS_pure (spec_none rfl rfl) fun _ => rfl
theorem WS_field {s : TypeId} {x : Operand} {f : Nat} : WS P C d e H (.field s x f) Q = @bindP _ (fieldA P s (ev e x) f) ⟨fun a => Q a H⟩ := WS_pure (spec_none rfl rfl) fun _ => rfl
theorem WS_indexAddr {t : TypeId} {x i : Operand} : WS P C d e H (.indexAddr t x i) Q = @bindP _ (indexAddrA P t (owA (ev e x)) (ev e i)) ⟨fun a => Q a H⟩ := WS_pure (spec_none rfl rfl) fun _ => rfl
theorem WS_index {t : TypeId} {x i : Operand} : WS P C d e H (.index t x i) Q = @bindP _ (indexA P t (ev e x) (ev e i)) ⟨fun a => Q a H⟩ := WS_pure (spec_none rfl rfl) fun _ => rfl
def extractA : AV → Nat → Option AV
  | .tup xs, i => xs[i]?
  | _, _ => none
@[go_sem] theorem extractA_zero {x : AV} {xs : List AV} : extractA (.tup (x :: xs)) 0 = some x := rfl
@[go_sem] theorem extractA_succ {x : AV} {xs : List AV} {n : Nat} : extractA (.tup (x :: xs)) (n + 1) = extractA (.tup xs) n := rfl
theorem WS_extract {t : Operand} {i : Nat} : WS P C d e H (.extract t i) Q = @bindP _ (extractA (ev e t) i) ⟨fun a => Q a H⟩ := by
  refine WS_pure (spec_none rfl rfl) fun _ => ?_
  show (match ev e t with | .tup xs => (xs[i]?).map fun a => (a, H) | _ => none) = _
  generalize ev e t = y
  cases y <;> rfl
theorem WS_len {args : List Operand} {ts : List TypeId} : WS P C d e H (.call { callee := .builtin .len, args := List.toArray args, argTypes := List.toArray ts }) Q = @bindP _ (builtinA P .len ts (args.map fun x => owA (ev e x))) ⟨fun a => Q a H⟩ := WS_pure (spec_none rfl rfl) fun _ => rfl
theorem WS_min {args : List Operand} {ts : List TypeId} : WS P C d e H (.call { callee := .builtin .min, args := List.toArray args, argTypes := List.toArray ts }) Q = @bindP _ (builtinA P .min ts (args.map fun x => owA (ev e x))) ⟨fun a => Q a H⟩ := WS_pure (spec_none rfl rfl) fun _ => rfl
theorem WS_max {args : List Operand} {ts : List TypeId} : WS P C d e H (.call { callee := .builtin .max, args := List.toArray args, argTypes := List.toArray ts }) Q = @bindP _ (builtinA P .max ts (args.map fun x => owA (ev e x))) ⟨fun a => Q a H⟩ := WS_pure (spec_none rfl rfl) fun _ => rfl
theorem WS_append {x y : Operand} {t u : TypeId} (hm : C.isMu d = false) (ht : C.isTk d = false) : WS P C d e H (.call { callee := .builtin .append, args := List.toArray [x, y], argTypes := List.toArray [t, u] }) Q = @bindP _ (builtinA P .append [t, u] [ev e x, viewR P H u (ev e y)]) ⟨fun a => Q a H⟩ := WS_pure ((spec_both rfl rfl rfl).trans (by rw [hm, ht]; rfl)) fun _ => rfl
theorem WS_appendM {x y : Operand} {t u : TypeId} (hm : C.isMu d = true) (ht : C.isTk d = false) : WS P C d e H (.call { callee := .builtin .append, args := List.toArray [x, y], argTypes := List.toArray [t, u] }) Q = @bindP _ (appendM P H t u (ev e x) (viewR P H u (ev e y))) ⟨fun p => Q p.1 p.2⟩ := WS_mu ((spec_both rfl rfl rfl).trans (by rw [hm]; rfl)) ht
theorem WS_appendT {x y : Operand} {t u : TypeId} (ht : C.isTk d = true) : WS P C d e H (.call { callee := .builtin .append, args := List.toArray [x, y], argTypes := List.toArray [t, u] }) Q = @bindP _ (appendT P H t u (ev e x) (viewR P H u (ev e y))) ⟨fun p => Q p.1 p.2⟩ := WS_tk ((spec_both rfl rfl rfl).trans (by rw [ht]; simp)) ht
theorem WS_makeSlice {t : TypeId} {l c : Operand} (hm : C.isMu d = true) (ht : C.isTk d = false) : WS P C d e H (.makeSlice t l c) Q = @bindP _ (makeA P H t (ev e l) (ev e c)) ⟨fun p => Q p.1 p.2⟩ := WS_mu ((spec_mu rfl rfl rfl).trans hm) ht
theorem WS_makeMap {t : TypeId} : WS P C d e H (.makeMap t none) Q = @bindP _ (mapTy P t) ⟨fun _ => Q (.mp H.length) (H ++ [[.mv [] []]])⟩ := by
  rw [WS_opA (spec_none rfl rfl) (fun _ => rfl)]
  show @bindP (AV × Heap) ((mapTy P t).map fun _ => (.mp H.length, H ++ [[.mv [] []]])) ⟨fun p => Q p.1 p.2⟩ = _
  cases mapTy P t <;> simp [bindP]
theorem WS_lookup {t : TypeId} {m k : Operand} {c : Bool} : WS P C d e H (.lookup t m k c) Q = @bindP _ (lookupA P H t (ev e m) (ev e k) c) ⟨fun a => Q a H⟩ := WS_pure (spec_none rfl rfl) fun _ => rfl
theorem WS_mapUpdate {t : TypeId} {m k v : Operand} : WS P C d e H (.mapUpdate t m k v) Q = @bindP _ (updateA P H t (ev e m) (ev e k) (ev e v)) ⟨fun H' => Q .un H'⟩ := by
  rw [WS_opA (spec_none rfl rfl) (fun _ => rfl)]
  show @bindP (AV × Heap) ((updateA P H t (ev e m) (ev e k) (ev e v)).map fun H' => (AV.un, H')) ⟨fun p => Q p.1 p.2⟩ = _
  cases updateA P H t (ev e m) (ev e k) (ev e v) <;> simp [bindP]
theorem WS_delete {t u : TypeId} {m k : Operand} : WS P C d e H (.call { callee := .builtin .delete, args := List.toArray [m, k], argTypes := List.toArray [t, u] }) Q = @bindP _ (deleteA P H t (ev e m) (ev e k)) ⟨fun H' => Q (.tup []) H'⟩ := by
  rw [WS_opA (spec_none rfl rfl) (fun _ => rfl)]
  show @bindP (AV × Heap) ((deleteA P H t (ev e m) (ev e k)).map fun H' => (AV.tup [], H')) ⟨fun p => Q p.1 p.2⟩ = _
  cases deleteA P H t (ev e m) (ev e k) <;> simp [bindP]
def freezeA (H : Heap) : AV → Option (AV × Heap)
  | .mr j off len n g => (H[j]?).bind fun cs => if (g = true ∨ n = 1) ∧ 0 < len ∧ off + len * n ≤ cs.length ∧ cs.all AV.one = true then some (.sl (chunk g n len (cs.drop off)), H.set j []) else none
  | .v x => if isNilV x = true then some (.sl [], H) else none
  | .ow xs _ => some (.sl xs, H)
  | _ => none
theorem WS_call {g : FuncId} {args : List Operand} {ts : Array TypeId} : WS P C d e H (.call { callee := .value (.func g), args := List.toArray args, argTypes := ts }) Q = WF P C g (args.map fun x => argA C g (ev e x)) H Q := by
  unfold WS
  simp only [stepA_plain (spec_none (o := .call { callee := .value (.func g), args := List.toArray args, argTypes := ts }) rfl rfl)]
  rfl
theorem WS_makeFunc {g : FuncId} {caps : List Operand} : WS P C d e H (.makeFunc (.func g) (List.toArray []) (List.toArray caps)) Q = Q (.fn g (caps.map (ev e))) H := by
  rw [WS_pure (x := some (.fn g (caps.map (ev e)))) (spec_none rfl rfl) (fun _ => rfl), bindP_some]
end

/-! ### The same, with what is to come in boxes -/
def rF (P : Program) (C : Cfg) (f : FuncId) (args : List AV) (H : Heap) [Q : K (AV → Heap → Prop)] : Prop := WF P C f args H Q.v
def rC (P : Program) (C : Cfg) (c : Code) (e : Env) (H : Heap) [Q : K (Ex → Env → Heap → Prop)] : Prop := WC P C c e H Q.v
def rL (P : Program) (C : Cfg) (e : Env) (H : Heap) [c : K Code] [Q : K (Ex → Env → Heap → Prop)] : Prop := WC P C (.loop c.v) e H Q.v
def rO (P : Program) (C : Cfg) (l : List Oper) (e : Env) (H : Heap) [all : K (Array Oper)] [Q : K (Env → Heap → Prop)] : Prop := WO P C all.v l e H Q.v
def rD (P : Program) (C : Cfg) (i : Nat) (l : List Oper) (e : Env) (H : Heap) (S : Seen) [all : K (Array Oper)] [Q : K (Env → Heap → Prop)] : Prop := WD P C all.v i l e H S Q.v
def rS (P : Program) (C : Cfg) (d : Option Nat) (e : Env) (H : Heap) (o : Op) [Q : K (AV → Heap → Prop)] : Prop := WS P C d e H o Q.v
def rSeq (P : Program) (C : Cfg) (x : Ex) (e : Env) (H : Heap) [b : K Code] [Q : K (Ex → Env → Heap → Prop)] : Prop := qSeq P C b.v Q.v x e H
def rBlock (id : Nat) (x : Ex) (e : Env) (H : Heap) [Q : K (Ex → Env → Heap → Prop)] : Prop := qBlock id Q.v x e H
def rLoop {σ : Type} (x : Ex) (e : Env) (H : Heap) [I : K (σ → Env → Heap → Prop)] [m : K (σ → Nat)] [s : K σ] [Q : K (Ex → Env → Heap → Prop)] : Prop := qLoop I.v m.v s.v Q.v x e H
def rFn (P : Program) (fn : Func) (x : Ex) (e : Env) (H : Heap) [Q : K (AV → Heap → Prop)] : Prop := qFn P fn Q.v x e H
/-- What a region saw of its loads. -/
def seenR (P : Program) (i : Nat) (e : Env) (S : Seen) (a : AV) (H H' : Heap) (o : Op) [all : K (Array Oper)] [Q : K (Seen → Prop)] : Prop := @bindP _ (seenOK P all.v i e S o a H H') Q

section
variable {P : Program} {C : Cfg} {e : Env} {H : Heap}
section
variable {Q : Ex → Env → Heap → Prop}
@[go_sem] theorem rC_skip : @rC P C .skip e H ⟨Q⟩ = Q .normal e H := WC_skip
@[go_sem] theorem rC_exit {id : Nat} : @rC P C (.exit id) e H ⟨Q⟩ = Q (.exit id) e H := WC_exit
@[go_sem] theorem rC_ret : @rC P C .ret e H ⟨Q⟩ = Q .ret e H := WC_ret
@[go_sem] theorem rC_seq {a b : Code} {Q : K (Ex → Env → Heap → Prop)} : @rC P C (.seq a b) e H Q = @rC P C a e H ⟨fun x e H => @rSeq P C x e H ⟨b⟩ Q⟩ := WC_seq
@[go_sem] theorem rC_block {id : Nat} {a : Code} {Q : K (Ex → Env → Heap → Prop)} : @rC P C (.block id a) e H Q = @rC P C a e H ⟨fun x e H => @rBlock id x e H Q⟩ := WC_block
@[go_sem] theorem rC_cond {c : Operand} {a b : Code} {Q : K (Ex → Env → Heap → Prop)} : @rC P C (.cond c a b) e H Q = @condP (ev e c) ⟨@rC P C a e H Q⟩ ⟨@rC P C b e H Q⟩ := WC_cond
@[go_sem] theorem rC_region {id : Nat} {l : List Oper} : @rC P C (.region id (List.toArray l) false) e H ⟨Q⟩ = @rO P C l e H ⟨List.toArray l⟩ ⟨fun e H => Q .normal e H⟩ := WC_region
@[go_sem] theorem rC_regionD {id : Nat} {l : List Oper} : @rC P C (.region id (List.toArray l) true) e H ⟨Q⟩ = @rD P C 0 l e H { snaps := [], loads := [] } ⟨List.toArray l⟩ ⟨fun e H => Q .normal e H⟩ := WC_regionD
@[go_sem] theorem rC_loop {a : Code} {Q : K (Ex → Env → Heap → Prop)} : @rC P C (.loop a) e H Q = @rL P C e H ⟨a⟩ Q := rfl
@[go_sem] theorem rSeq_normal {b : Code} {Q : K (Ex → Env → Heap → Prop)} : @rSeq P C .normal e H ⟨b⟩ Q = @rC P C b e H Q := rfl
@[go_sem] theorem rSeq_exit {b : K Code} {i : Nat} : @rSeq P C (.exit i) e H b ⟨Q⟩ = Q (.exit i) e H := rfl
@[go_sem] theorem rSeq_ret {b : K Code} : @rSeq P C .ret e H b ⟨Q⟩ = Q .ret e H := rfl
@[go_sem] theorem rBlock_normal {id : Nat} : @rBlock id .normal e H ⟨Q⟩ = Q .normal e H := rfl
@[go_sem] theorem rBlock_exit {id i : Nat} : @rBlock id (.exit i) e H ⟨Q⟩ = @ifP (i = id) ⟨Q .normal e H⟩ ⟨Q (.exit i) e H⟩ := qBlock_exit
@[go_sem] theorem rBlock_ret {id : Nat} : @rBlock id .ret e H ⟨Q⟩ = Q .ret e H := rfl
@[go_sem] theorem rLoop_exit {σ : Type} {I : K (σ → Env → Heap → Prop)} {m : K (σ → Nat)} {s : K σ} {i : Nat} : @rLoop σ (.exit i) e H I m s ⟨Q⟩ = Q (.exit i) e H := rfl
@[go_sem] theorem rLoop_ret {σ : Type} {I : K (σ → Env → Heap → Prop)} {m : K (σ → Nat)} {s : K σ} : @rLoop σ .ret e H I m s ⟨Q⟩ = Q .ret e H := rfl
@[go_sem] theorem rLoop_normal {σ : Type} {I : σ → Env → Heap → Prop} {m : σ → Nat} {s : σ} {Q : K (Ex → Env → Heap → Prop)} : @rLoop σ .normal e H ⟨I⟩ ⟨m⟩ ⟨s⟩ Q = ∃ s', I s' e H ∧ m s' < m s := rfl

/-- A loop: something kept, and something that falls. -/
theorem rL_loop {σ : Type} (I : σ → Env → Heap → Prop) (m : σ → Nat) {a : Code} (s : σ) (h0 : I s e H) (step : ∀ s e H, I s e H → @rC P C a e H ⟨fun x e H => @rLoop σ x e H ⟨I⟩ ⟨m⟩ ⟨s⟩ ⟨Q⟩⟩) : @rL P C e H ⟨a⟩ ⟨Q⟩ :=
  WC.loop I m s h0 step
/-- One round of a loop. -/
theorem rL_once {a : Code} (h : @rC P C a e H ⟨fun x e H => @rSeq P C x e H ⟨.loop a⟩ ⟨Q⟩⟩) : @rL P C e H ⟨a⟩ ⟨Q⟩ := WC.loop1 h
end
section
variable {Q : AV → Heap → Prop} {fn : Func}
@[go_sem] theorem rFn_ret : @rFn P fn .ret e H ⟨Q⟩ = @bindP _ (resV P fn.results e H) ⟨fun a => Q a H⟩ := rfl
@[go_sem] theorem rFn_normal : @rFn P fn .normal e H ⟨Q⟩ = @bindP _ (resV P fn.results e H) ⟨fun a => Q a H⟩ := rfl
theorem rF_fn {f : FuncId} {args : List AV} {c : Code} (he : C.ext f = none) (hok : C.ok f = true) (hf : P.funcs[f]? = some fn) (hb : fn.body = some c) (h : @rC P (C.at f) c (env0 args) H ⟨fun x e H => @rFn P fn x e H ⟨Q⟩⟩) : WF P C f args H Q := WF_fn he hok hf hb h
theorem rF_use {f : FuncId} {args : List AV} {R : AV → Heap → Prop} (h : WF P C f args H R) (hq : ∀ r H', R r H' → Q r H') : @rF P C f args H ⟨Q⟩ := h.mono hq
end
section
variable {Q : Env → Heap → Prop} {all : K (Array Oper)} {d : Option Nat} {op : Op} {ty : TypeId} {pos : String} {after : Array Edge} {r : List Oper}
@[go_sem] theorem rO_nil : @rO P C [] e H all ⟨Q⟩ = Q e H := WO_nil
@[go_sem] theorem rO_cons {Q : K (Env → Heap → Prop)} : @rO P C ({ dst := d, op := op, type := ty, pos := pos, after := after, guard := none } :: r) e H all Q = @rS P C d e H op ⟨fun a H' => @rO P C r (put e d a) H' all Q⟩ := WO_cons
@[go_sem] theorem rO_guard {Q : K (Env → Heap → Prop)} {j : Nat} {w : Bool} : @rO P C ({ dst := d, op := op, type := ty, pos := pos, after := after, guard := some (j, w) } :: r) e H all Q =
    @guardP (@guardV e j all) w ⟨@rS P C d e H op ⟨fun a H' => @rO P C r (put e d a) H' all Q⟩⟩ ⟨@rO P C r (put e d skipA) H all Q⟩ := WO_guard
@[go_sem] theorem rD_nil {i : Nat} {S : Seen} : @rD P C i [] e H S all ⟨Q⟩ = Q e H := WD_nil
@[go_sem] theorem rD_cons {Q : K (Env → Heap → Prop)} {i : Nat} {S : Seen} : @rD P C i ({ dst := d, op := op, type := ty, pos := pos, after := after, guard := none } :: r) e H S all Q =
    @rS P C d e H op ⟨fun a H' => @seenR P i e S a H H' op all ⟨fun S' => @rD P C (i + 1) r (put e d a) H' S' all Q⟩⟩ := WD_cons
@[go_sem] theorem rD_guard {Q : K (Env → Heap → Prop)} {i : Nat} {S : Seen} {j : Nat} {w : Bool} : @rD P C i ({ dst := d, op := op, type := ty, pos := pos, after := after, guard := some (j, w) } :: r) e H S all Q =
    @guardP (@guardV e j all) w ⟨@rS P C d e H op ⟨fun a H' => @seenR P i e S a H H' op all ⟨fun S' => @rD P C (i + 1) r (put e d a) H' S' all Q⟩⟩⟩ ⟨@rD P C (i + 1) r (put e d skipA) H S all Q⟩ := WD_guard
end
section
variable {i : Nat} {S : Seen} {a : AV} {H' : Heap} {all : K (Array Oper)} {Q : Seen → Prop}
theorem seenR_same {o : Op} (h1 : ∀ t p, o ≠ .load t p) (h2 : effOp o = false) : @seenR P i e S a H H' o all ⟨Q⟩ = Q S := by
  have : seenOK P all.v i e S o a H H' = some S := by
    unfold seenOK
    split
    · exact absurd rfl (h1 _ _)
    · rw [if_neg (by rw [h2]; simp)]
  unfold seenR
  rw [this, bindP_some]
@[go_sem] theorem seenR_move {x : Operand} : @seenR P i e S a H H' (.move x) all ⟨Q⟩ = Q S := seenR_same (by simp) rfl
@[go_sem] theorem seenR_pick {x y z : Operand} : @seenR P i e S a H H' (.pick x y z) all ⟨Q⟩ = Q S := seenR_same (by simp) rfl
@[go_sem] theorem seenR_build {t : TypeId} {ps : Array (Nat × Operand)} : @seenR P i e S a H H' (.build t ps) all ⟨Q⟩ = Q S := seenR_same (by simp) rfl
@[go_sem] theorem seenR_nilCheck {x : Operand} : @seenR P i e S a H H' (.nilCheck x) all ⟨Q⟩ = Q S := seenR_same (by simp) rfl
@[go_sem] theorem seenR_binOp {op : BinOp} {t u : TypeId} {x y : Operand} : @seenR P i e S a H H' (.binOp op t x y u) all ⟨Q⟩ = Q S := seenR_same (by simp) rfl
@[go_sem] theorem seenR_unOp {op : UnOp} {t : TypeId} {x : Operand} : @seenR P i e S a H H' (.unOp op t x) all ⟨Q⟩ = Q S := seenR_same (by simp) rfl
@[go_sem] theorem seenR_convert {t u : TypeId} {x : Operand} : @seenR P i e S a H H' (.convert t u x) all ⟨Q⟩ = Q S := seenR_same (by simp) rfl
@[go_sem] theorem seenR_slice {t : TypeId} {x : Operand} {l h m : Option Operand} : @seenR P i e S a H H' (.slice t x l h m) all ⟨Q⟩ = Q S := seenR_same (by simp) rfl
@[go_sem] theorem seenR_fieldAddr {t : TypeId} {x : Operand} {f : Nat} : @seenR P i e S a H H' (.fieldAddr t x f) all ⟨Q⟩ = Q S := seenR_same (by simp) rfl
@[go_sem] theorem seenR_field {t : TypeId} {x : Operand} {f : Nat} : @seenR P i e S a H H' (.field t x f) all ⟨Q⟩ = Q S := seenR_same (by simp) rfl
@[go_sem] theorem seenR_indexAddr {t : TypeId} {x y : Operand} : @seenR P i e S a H H' (.indexAddr t x y) all ⟨Q⟩ = Q S := seenR_same (by simp) rfl
@[go_sem] theorem seenR_index {t : TypeId} {x y : Operand} : @seenR P i e S a H H' (.index t x y) all ⟨Q⟩ = Q S := seenR_same (by simp) rfl
@[go_sem] theorem seenR_extract {x : Operand} {n : Nat} : @seenR P i e S a H H' (.extract x n) all ⟨Q⟩ = Q S := seenR_same (by simp) rfl
@[go_sem] theorem seenR_makeFunc {f : Fn} {x y : Array Operand} : @seenR P i e S a H H' (.makeFunc f x y) all ⟨Q⟩ = Q S := seenR_same (by simp) rfl
@[go_sem] theorem seenR_len {x : Array Operand} {ts : Array TypeId} : @seenR P i e S a H H' (.call { callee := .builtin .len, args := x, argTypes := ts }) all ⟨Q⟩ = Q S := seenR_same (by simp) rfl
@[go_sem] theorem seenR_min {x : Array Operand} {ts : Array TypeId} : @seenR P i e S a H H' (.call { callee := .builtin .min, args := x, argTypes := ts }) all ⟨Q⟩ = Q S := seenR_same (by simp) rfl
@[go_sem] theorem seenR_max {x : Array Operand} {ts : Array TypeId} : @seenR P i e S a H H' (.call { callee := .builtin .max, args := x, argTypes := ts }) all ⟨Q⟩ = Q S := seenR_same (by simp) rfl
/-- An effect: what was read stands as it stood. -/
theorem seenR_eff {o : Op} (h1 : ∀ t p, o ≠ .load t p) (h2 : effOp o = true) (h : (∀ l ∈ S.loads, loadA P H' l.2.1 l.2.2.1 = some l.2.2.2)) (hq : Q { S with snaps := (i, H) :: S.snaps }) : @seenR P i e S a H H' o all ⟨Q⟩ := by
  have : seenOK P all.v i e S o a H H' = some { S with snaps := (i, H) :: S.snaps } := by
    unfold seenOK
    split
    · exact absurd rfl (h1 _ _)
    · rw [if_pos h2, if_pos (fun l hl => .inr (h l hl))]
  unfold seenR
  rw [this, bindP_some]; exact hq
/-- An effect where nothing was read before. -/
theorem seenR_eff0 {o : Op} {sn : List (Nat × Heap)} (h1 : ∀ t p, o ≠ .load t p) (h2 : effOp o = true) : @seenR P i e { snaps := sn, loads := [] } a H H' o all ⟨Q⟩ = Q { snaps := (i, H) :: sn, loads := [] } := by
  have : seenOK P all.v i e { snaps := sn, loads := [] } o a H H' = some { snaps := (i, H) :: sn, loads := [] } := by
    unfold seenOK
    split
    · exact absurd rfl (h1 _ _)
    · rw [if_pos h2, if_pos (fun l hl => by simp at hl)]
  unfold seenR
  rw [this, bindP_some]
/-- The same, with what was read: it must stand as it stood. -/
def LoadsOK (P : Program) (all : Array Oper) (i : Nat) (H' : Heap) (l : List (Nat × TypeId × AV × AV)) : Prop := ∀ x ∈ l, reachE all 8 i x.1 = true ∨ loadA P H' x.2.1 x.2.2.1 = some x.2.2.2
theorem seenR_effL {o : Op} {sn : List (Nat × Heap)} {ls : List (Nat × TypeId × AV × AV)} (h1 : ∀ t p, o ≠ .load t p) (h2 : effOp o = true) (h : LoadsOK P all.v i H' ls) (hq : Q { snaps := (i, H) :: sn, loads := ls }) : @seenR P i e { snaps := sn, loads := ls } a H H' o all ⟨Q⟩ := by
  have : seenOK P all.v i e { snaps := sn, loads := ls } o a H H' = some { snaps := (i, H) :: sn, loads := ls } := by
    unfold seenOK
    split
    · exact absurd rfl (h1 _ _)
    · rw [if_pos h2, if_pos (fun l hl => h l hl)]
  unfold seenR
  rw [this, bindP_some]; exact hq
section
variable {sn : List (Nat × Heap)}
@[go_sem] theorem seenR_assign0 {x : Operand} : @seenR P i e { snaps := sn, loads := [] } a H H' (.assign x) all ⟨Q⟩ = Q { snaps := (i, H) :: sn, loads := [] } := seenR_eff0 (by simp) rfl
@[go_sem] theorem seenR_store0 {t : TypeId} {x y : Operand} : @seenR P i e { snaps := sn, loads := [] } a H H' (.store t x y) all ⟨Q⟩ = Q { snaps := (i, H) :: sn, loads := [] } := seenR_eff0 (by simp) rfl
@[go_sem] theorem seenR_buildSlice0 {t n : Nat} {ps : Array (Nat × Operand)} : @seenR P i e { snaps := sn, loads := [] } a H H' (.buildSlice t n ps) all ⟨Q⟩ = Q { snaps := (i, H) :: sn, loads := [] } := seenR_eff0 (by simp) rfl
@[go_sem] theorem seenR_append0 {x : Array Operand} {ts : Array TypeId} : @seenR P i e { snaps := sn, loads := [] } a H H' (.call { callee := .builtin .append, args := x, argTypes := ts }) all ⟨Q⟩ = Q { snaps := (i, H) :: sn, loads := [] } := seenR_eff0 (by simp) rfl
@[go_sem] theorem seenR_call0 {f : Operand} {x : Array Operand} {ts : Array TypeId} : @seenR P i e { snaps := sn, loads := [] } a H H' (.call { callee := .value f, args := x, argTypes := ts }) all ⟨Q⟩ = Q { snaps := (i, H) :: sn, loads := [] } := seenR_eff0 (by simp) rfl
end
section
variable {sn : List (Nat × Heap)}
@[go_sem] theorem seenR_makeMap0 {t : TypeId} {r : Option Operand} : @seenR P i e { snaps := sn, loads := [] } a H H' (.makeMap t r) all ⟨Q⟩ = Q { snaps := (i, H) :: sn, loads := [] } := seenR_eff0 (by simp) rfl
@[go_sem] theorem seenR_makeSlice0 {t : TypeId} {x y : Operand} : @seenR P i e { snaps := sn, loads := [] } a H H' (.makeSlice t x y) all ⟨Q⟩ = Q { snaps := (i, H) :: sn, loads := [] } := seenR_eff0 (by simp) rfl
@[go_sem] theorem seenR_lookup0 {t : TypeId} {x y : Operand} {c : Bool} : @seenR P i e { snaps := sn, loads := [] } a H H' (.lookup t x y c) all ⟨Q⟩ = Q { snaps := (i, H) :: sn, loads := [] } := seenR_eff0 (by simp) rfl
@[go_sem] theorem seenR_mapUpdate0 {t : TypeId} {x y z : Operand} : @seenR P i e { snaps := sn, loads := [] } a H H' (.mapUpdate t x y z) all ⟨Q⟩ = Q { snaps := (i, H) :: sn, loads := [] } := seenR_eff0 (by simp) rfl
@[go_sem] theorem seenR_delete0 {x : Array Operand} {ts : Array TypeId} : @seenR P i e { snaps := sn, loads := [] } a H H' (.call { callee := .builtin .delete, args := x, argTypes := ts }) all ⟨Q⟩ = Q { snaps := (i, H) :: sn, loads := [] } := seenR_eff0 (by simp) rfl
end
/-- A load where nothing was written before. -/
@[go_sem] theorem seenR_load0 {ls : List (Nat × TypeId × AV × AV)} {t : TypeId} {p : Operand} : @seenR P i e { snaps := [], loads := ls } a H H' (.load t p) all ⟨Q⟩ = Q { snaps := [], loads := (i, t, ev e p, a) :: ls } := by
  have : seenOK P all.v i e { snaps := [], loads := ls } (.load t p) a H H' = some { snaps := [], loads := (i, t, ev e p, a) :: ls } := by
    unfold seenOK
    simp only
    rw [if_pos (fun l hl => by simp at hl)]
  unfold seenR
  rw [this, bindP_some]
end
end

section
variable {P : Program} {C : Cfg} {d : Option Nat} {e : Env} {H : Heap} {Q : AV → Heap → Prop}
@[go_sem] theorem rS_move {x : Operand} : @rS P C d e H (.move x) ⟨Q⟩ = Q (ev e x) H := WS_move
def muP (b : Bool) [A : K Prop] [B : K Prop] : Prop := if b = true then A.v else B.v
@[go_sem] theorem muP_true {A : Prop} {B : K Prop} : @muP true ⟨A⟩ B = A := rfl
@[go_sem] theorem muP_false {A : K Prop} {B : Prop} : @muP false A ⟨B⟩ = B := rfl
@[go_sem] theorem isMu_none : C.isMu none = false := rfl
@[go_sem] theorem isMu_at {f : FuncId} {d : Nat} : (C.at f).isMu (some d) = C.muF f d := rfl
@[go_sem] theorem isFz_none : C.isFz none = false := rfl
@[go_sem] theorem isFz_at {f : FuncId} {d : Nat} : (C.at f).isFz (some d) = C.fzF f d := rfl
@[go_sem] theorem isTk_none : C.isTk none = false := rfl
@[go_sem] theorem isTk_at {f : FuncId} {d : Nat} : (C.at f).isTk (some d) = C.tkF f d := rfl
@[go_sem] theorem rS_assign_tmp {t : Nat} : @rS P C d e H (.assign (.tmp t)) ⟨Q⟩ = @muP (C.isFz d) ⟨@muP (C.isTk d) ⟨False⟩ ⟨@bindP _ (freezeA H (e t)) ⟨fun p => Q p.1 p.2⟩⟩⟩ ⟨Q (e t) H⟩ := by
  cases h : C.isFz d with
  | true =>
    cases h2 : C.isTk d with
    | true =>
      show WS P C d e H _ Q = False
      rw [WS_tk ((spec_fz rfl rfl rfl).trans h) h2]
      show @bindP (AV × Heap) none ⟨fun p => Q p.1 p.2⟩ = False
      simp [bindP]
    | false =>
      show WS P C d e H _ Q = @bindP _ (freezeA H (e t)) ⟨fun p => Q p.1 p.2⟩
      rw [WS_mu ((spec_fz rfl rfl rfl).trans h) h2]; rfl
  | false => exact WS_assign ((spec_fz rfl rfl rfl).trans h)
@[go_sem] theorem rS_assign_nil : @rS P C d e H (.assign (.const (.slice none 0 0))) ⟨Q⟩ = @muP (C.isMu d || C.isTk d) ⟨Q nilA H⟩ ⟨Q (.sl []) H⟩ := by
  cases h : (C.isMu d || C.isTk d) with
  | true =>
    cases h2 : C.isTk d with
    | true =>
      show WS P C d e H _ Q = Q nilA H
      rw [WS_tk ((spec_both rfl rfl rfl).trans h) h2, show tkA P e H (.assign (.const (.slice none 0 0))) = some (nilA, H) from rfl, bindP_some]
    | false =>
      show WS P C d e H _ Q = Q nilA H
      rw [WS_mu ((spec_both rfl rfl rfl).trans h) h2, show muA P e H (.assign (.const (.slice none 0 0))) = some (nilA, H) from rfl, bindP_some]
  | false => exact WS_assign ((spec_both rfl rfl rfl).trans h)
@[go_sem] theorem rS_assign_int {k : IntKind} {n : Int} : @rS P C d e H (.assign (.const (.int k n))) ⟨Q⟩ = Q (.v (.int k n)) H := WS_assign (spec_none rfl rfl)
@[go_sem] theorem rS_assign_bool {b : Bool} : @rS P C d e H (.assign (.const (.bool b))) ⟨Q⟩ = Q (.v (.bool b)) H := WS_assign (spec_none rfl rfl)
@[go_sem] theorem rS_assign_string {s : ByteArray} : @rS P C d e H (.assign (.const (.string s))) ⟨Q⟩ = Q (ev e (.const (.string s))) H := WS_assign (spec_none rfl rfl)
@[go_sem] theorem rS_assign_ptr : @rS P C d e H (.assign (.const (.pointer none))) ⟨Q⟩ = Q (.v (.pointer none)) H := WS_assign (spec_none rfl rfl)
@[go_sem] theorem rS_assign_agg {cs : Array Value} : @rS P C d e H (.assign (.const (.agg cs))) ⟨Q⟩ = Q (ev e (.const (.agg cs))) H := WS_assign (spec_none rfl rfl)
@[go_sem] theorem rS_assign_func {f : FuncId} : @rS P C d e H (.assign (.func f)) ⟨Q⟩ = Q (.fn f []) H := WS_assign (spec_none rfl rfl)
@[go_sem] theorem rS_append {x y : Operand} {t u : TypeId} : @rS P C d e H (.call { callee := .builtin .append, args := List.toArray [x, y], argTypes := List.toArray [t, u] }) ⟨Q⟩ =
    @muP (C.isTk d) ⟨@bindP _ (appendT P H t u (ev e x) (viewR P H u (ev e y))) ⟨fun p => Q p.1 p.2⟩⟩ ⟨@muP (C.isMu d) ⟨@bindP _ (appendM P H t u (ev e x) (viewR P H u (ev e y))) ⟨fun p => Q p.1 p.2⟩⟩ ⟨@bindP _ (builtinA P .append [t, u] [ev e x, viewR P H u (ev e y)]) ⟨fun a => Q a H⟩⟩⟩ := by
  cases h2 : C.isTk d with
  | true => exact WS_appendT h2
  | false =>
    cases h : C.isMu d with
    | true => exact WS_appendM h h2
    | false => exact WS_append h h2
@[go_sem] theorem rS_makeSlice {t : TypeId} {l c : Operand} : @rS P C d e H (.makeSlice t l c) ⟨Q⟩ = @muP (C.isMu d) ⟨@muP (C.isTk d) ⟨False⟩ ⟨@bindP _ (makeA P H t (ev e l) (ev e c)) ⟨fun p => Q p.1 p.2⟩⟩⟩ ⟨False⟩ := by
  cases h : C.isMu d with
  | true =>
    cases h2 : C.isTk d with
    | true =>
      show WS P C d e H _ Q = False
      rw [WS_tk ((spec_mu rfl rfl rfl).trans h) h2]
      show @bindP (AV × Heap) none ⟨fun p => Q p.1 p.2⟩ = False
      simp [bindP]
    | false => exact WS_makeSlice h h2
  | false =>
    show WS P C d e H _ Q = False
    rw [WS_opA ((spec_mu rfl rfl rfl).trans h) (fun _ => rfl)]
    show @bindP (AV × Heap) none ⟨fun p => Q p.1 p.2⟩ = False
    simp [bindP]
@[go_sem] theorem rS_makeMap {t : TypeId} : @rS P C d e H (.makeMap t none) ⟨Q⟩ = @bindP _ (mapTy P t) ⟨fun _ => Q (.mp H.length) (H ++ [[.mv [] []]])⟩ := WS_makeMap
@[go_sem] theorem rS_lookup {t : TypeId} {m k : Operand} {c : Bool} : @rS P C d e H (.lookup t m k c) ⟨Q⟩ = @bindP _ (lookupA P H t (ev e m) (ev e k) c) ⟨fun a => Q a H⟩ := WS_lookup
@[go_sem] theorem rS_mapUpdate {t : TypeId} {m k v : Operand} : @rS P C d e H (.mapUpdate t m k v) ⟨Q⟩ = @bindP _ (updateA P H t (ev e m) (ev e k) (ev e v)) ⟨fun H' => Q .un H'⟩ := WS_mapUpdate
@[go_sem] theorem rS_delete {t u : TypeId} {m k : Operand} : @rS P C d e H (.call { callee := .builtin .delete, args := List.toArray [m, k], argTypes := List.toArray [t, u] }) ⟨Q⟩ = @bindP _ (deleteA P H t (ev e m) (ev e k)) ⟨fun H' => Q (.tup []) H'⟩ := WS_delete
@[go_sem] theorem rS_len {args : List Operand} {ts : List TypeId} : @rS P C d e H (.call { callee := .builtin .len, args := List.toArray args, argTypes := List.toArray ts }) ⟨Q⟩ = @bindP _ (builtinA P .len ts (args.map fun x => owA (ev e x))) ⟨fun a => Q a H⟩ := WS_len
@[go_sem] theorem rS_min {args : List Operand} {ts : List TypeId} : @rS P C d e H (.call { callee := .builtin .min, args := List.toArray args, argTypes := List.toArray ts }) ⟨Q⟩ = @bindP _ (builtinA P .min ts (args.map fun x => owA (ev e x))) ⟨fun a => Q a H⟩ := WS_min
@[go_sem] theorem rS_max {args : List Operand} {ts : List TypeId} : @rS P C d e H (.call { callee := .builtin .max, args := List.toArray args, argTypes := List.toArray ts }) ⟨Q⟩ = @bindP _ (builtinA P .max ts (args.map fun x => owA (ev e x))) ⟨fun a => Q a H⟩ := WS_max
@[go_sem] theorem rS_call {f g : FuncId} {args : List Operand} {ts : Array TypeId} {Q : K (AV → Heap → Prop)} : @rS P (C.at f) d e H (.call { callee := .value (.func g), args := List.toArray args, argTypes := ts }) Q = @rF P C g (args.map fun x => argA C g (ev e x)) H Q := by
  show WS P (C.at f) d e H _ Q.v = WF P C g (args.map fun x => argA C g (ev e x)) H Q.v
  rw [WS_call, WF.at]
  rfl
@[go_sem] theorem rS_pick {c a b : Operand} : @rS P C d e H (.pick c a b) ⟨Q⟩ = @bindP _ (pickA (ev e c) (ev e a) (ev e b)) ⟨fun v => Q v H⟩ := WS_pick
@[go_sem] theorem rS_alloc {t : TypeId} : @rS P C d e H (.alloc t) ⟨Q⟩ = @bindP _ (zeroA P t) ⟨fun z => Q (.ptr H.length 0) (H ++ [z])⟩ := WS_alloc
@[go_sem] theorem rS_box {t : TypeId} {x : Operand} : @rS P C d e H (.box t x) ⟨Q⟩ = @bindP _ (if (evX e x).cells.all AV.one = true then some (evX e x).cells else none) ⟨fun z => Q (.ptr H.length 0) (H ++ [z])⟩ := WS_box
@[go_sem] theorem rS_build {t : TypeId} {parts : List (Nat × Operand)} : @rS P C d e H (.build t (List.toArray parts)) ⟨Q⟩ = @bindP _ (buildA P t (parts.map fun p => (p.1, evX e p.2))) ⟨fun a => Q a H⟩ := WS_build
@[go_sem] theorem rS_buildSlice {t : TypeId} {n : Nat} {parts : List (Nat × Operand)} : @rS P C d e H (.buildSlice t n (List.toArray parts)) ⟨Q⟩ = @bindP _ (buildSliceA P t n (parts.map fun p => (p.1, ev e p.2))) ⟨fun a => Q a H⟩ := WS_buildSlice
@[go_sem] theorem rS_load {t : TypeId} {x : Operand} : @rS P C d e H (.load t x) ⟨Q⟩ = @bindP _ (loadA P H t (ev e x)) ⟨fun a => Q a H⟩ := WS_load
@[go_sem] theorem rS_store {t : TypeId} {p x : Operand} : @rS P C d e H (.store t p x) ⟨Q⟩ = @bindP _ (storeA P H t (ev e p) (evX e x)) ⟨fun H' => Q .un H'⟩ := WS_store
@[go_sem] theorem rS_nilCheck {x : Operand} : @rS P C d e H (.nilCheck x) ⟨Q⟩ = @bindP _ (match ev e x with | .ptr j off => some (AV.ptr j off) | _ => none) ⟨fun a => Q a H⟩ := WS_nilCheck
@[go_sem] theorem rS_binOp {op : BinOp} {xt yt : TypeId} {x y : Operand} : @rS P C d e H (.binOp op xt x y yt) ⟨Q⟩ = @bindP _ (bin P op xt (ev e x) (ev e y)) ⟨fun a => Q a H⟩ := WS_binOp
@[go_sem] theorem rS_unOp {op : UnOp} {t : TypeId} {x : Operand} : @rS P C d e H (.unOp op t x) ⟨Q⟩ = @bindP _ (un1 op (ev e x)) ⟨fun a => Q a H⟩ := WS_unOp
@[go_sem] theorem rS_convert {s u : TypeId} {x : Operand} : @rS P C d e H (.convert s u x) ⟨Q⟩ = @bindP _ (conv P s u (plainA (ev e x))) ⟨fun a => Q a H⟩ := WS_convert
@[go_sem] theorem rS_slice {t : TypeId} {x : Operand} {lo hi mx : Option Operand} : @rS P C d e H (.slice t x lo hi mx) ⟨Q⟩ = @bindP _ (sliceA P t (owA (ev e x)) (lo.map (ev e)) (hi.map (ev e)) (mx.map (ev e))) ⟨fun a => Q a H⟩ := WS_slice
@[go_sem] theorem rS_fieldAddr {s : TypeId} {x : Operand} {f : Nat} : @rS P C d e H (.fieldAddr s x f) ⟨Q⟩ = @bindP _ (fieldAddrA P s (ev e x) f) ⟨fun a => Q a H⟩ := WS_fieldAddr
@[go_sem] theorem rS_field {s : TypeId} {x : Operand} {f : Nat} : @rS P C d e H (.field s x f) ⟨Q⟩ = @bindP _ (fieldA P s (ev e x) f) ⟨fun a => Q a H⟩ := WS_field
@[go_sem] theorem rS_indexAddr {t : TypeId} {x i : Operand} : @rS P C d e H (.indexAddr t x i) ⟨Q⟩ = @bindP _ (indexAddrA P t (owA (ev e x)) (ev e i)) ⟨fun a => Q a H⟩ := WS_indexAddr
@[go_sem] theorem rS_index {t : TypeId} {x i : Operand} : @rS P C d e H (.index t x i) ⟨Q⟩ = @bindP _ (indexA P t (ev e x) (ev e i)) ⟨fun a => Q a H⟩ := WS_index
@[go_sem] theorem rS_extract {t : Operand} {i : Nat} : @rS P C d e H (.extract t i) ⟨Q⟩ = @bindP _ (extractA (ev e t) i) ⟨fun a => Q a H⟩ := WS_extract
@[go_sem] theorem rS_makeFunc {g : FuncId} {caps : List Operand} : @rS P C d e H (.makeFunc (.func g) (List.toArray []) (List.toArray caps)) ⟨Q⟩ = Q (.fn g (caps.map (ev e))) H := WS_makeFunc
end

section
variable {P : Program} {e : Env} {H : Heap}
/-! ### Marks put aside -/
@[go_sem] theorem owA_v {x : Value} : owA (.v x) = .v x := rfl
@[go_sem] theorem owA_sl {xs : List AV} : owA (.sl xs) = .sl xs := rfl
@[go_sem] theorem owA_ow {xs : List AV} {j : Nat} : owA (.ow xs j) = .sl xs := rfl
@[go_sem] theorem owA_mr {j off len n : Nat} {g : Bool} : owA (.mr j off len n g) = .mr j off len n g := rfl
@[go_sem] theorem owA_ptr {j off : Nat} : owA (.ptr j off) = .ptr j off := rfl
@[go_sem] theorem owA_ea {a : AV} {off : Nat} : owA (.ea a off) = .ea a off := rfl
@[go_sem] theorem owA_mp {j : Nat} : owA (.mp j) = .mp j := rfl
@[go_sem] theorem owA_agg {xs : List AV} : owA (.agg xs) = .agg xs := rfl
@[go_sem] theorem plainA_sl {xs : List AV} : plainA (.sl xs) = .sl xs := rfl
@[go_sem] theorem plainA_ow {xs : List AV} {j : Nat} : plainA (.ow xs j) = .sl xs := rfl
@[go_sem] theorem plainA_mr {j off len n : Nat} {g : Bool} : plainA (.mr j off len n g) = .mr j off len n g := rfl
@[go_sem] theorem plainA_ptr {j off : Nat} : plainA (.ptr j off) = .ptr j off := rfl
@[go_sem] theorem plainA_ea {a : AV} {off : Nat} : plainA (.ea a off) = .ea a off := rfl
@[go_sem] theorem plainA_mp {j : Nat} : plainA (.mp j) = .mp j := rfl
@[go_sem] theorem plainA_agg {xs : List AV} : plainA (.agg xs) = .agg xs := rfl
@[go_sem] theorem plainA_fn {f : FuncId} {xs : List AV} : plainA (.fn f xs) = .fn f xs := rfl
@[go_sem] theorem plainA_int {k : IntKind} {n : Int} : plainA (.v (.int k n)) = .v (.int k n) := rfl
@[go_sem] theorem plainA_bool {b : Bool} : plainA (.v (.bool b)) = .v (.bool b) := rfl
@[go_sem] theorem plainA_string {s : ByteArray} : plainA (.v (.string s)) = .v (.string s) := rfl
@[go_sem] theorem plainA_pnil : plainA (.v (.pointer none)) = .v (.pointer none) := rfl
@[go_sem] theorem plainA_mnil : plainA (.v (.map none)) = .v (.map none) := rfl
@[go_sem] theorem plainA_nil : plainA nilA = .sl [] := rfl
@[go_sem] theorem plainA_nil' : plainA (.v (.slice none 0 0)) = .sl [] := rfl
@[go_sem] theorem argA_is {C : Cfg} {g : FuncId} {a : AV} : argA C g a = bif C.raw g then a else plainA a := rfl
attribute [go_sem] cond_true cond_false
/-! ### Operands -/
@[go_sem] theorem evX_tmp {t : Nat} : evX e (.tmp t) = e t := rfl
@[go_sem] theorem evX_int {k : IntKind} {n : Int} : evX e (.const (.int k n)) = .v (.int k n) := rfl
@[go_sem] theorem evX_bool {b : Bool} : evX e (.const (.bool b)) = .v (.bool b) := rfl
@[go_sem] theorem evX_nil : evX e (.const (.slice none 0 0)) = nilA := rfl
@[go_sem] theorem evX_ptr : evX e (.const (.pointer none)) = .v (.pointer none) := rfl
@[go_sem] theorem evX_func {f : FuncId} : evX e (.func f) = .fn f [] := rfl
@[go_sem] theorem evX_string {s : ByteArray} : evX e (.const (.string s)) = ev e (.const (.string s)) := rfl
@[go_sem] theorem ev_tmp {t : Nat} : ev e (.tmp t) = e t := rfl
@[go_sem] theorem ev_int {k : IntKind} {n : Int} : ev e (.const (.int k n)) = .v (.int k n) := rfl
@[go_sem] theorem ev_bool {b : Bool} : ev e (.const (.bool b)) = .v (.bool b) := rfl
theorem ev_string {l : List UInt8} : ev e (.const (.string { data := List.toArray l })) = .v (.string { data := List.toArray l }) := rfl
@[go_sem] theorem ev_nil : ev e (.const (.slice none 0 0)) = .sl [] := rfl
@[go_sem] theorem ev_ptr : ev e (.const (.pointer none)) = .v (.pointer none) := rfl
@[go_sem] theorem ev_func {f : FuncId} : ev e (.func f) = .fn f [] := rfl
@[go_sem] theorem put_some {d : Nat} {a : AV} : put e (some d) a = upd e d a := rfl
@[go_sem] theorem put_none {a : AV} : put e none a = e := rfl
def sel (b : Bool) (t : Nat) [a : K AV] [e : K Env] : AV := bif b then a.v else e.v t
@[go_sem] theorem sel_true {t : Nat} {a : AV} {e : K Env} : @sel true t ⟨a⟩ e = a := rfl
@[go_sem] theorem sel_false {t : Nat} {a : K AV} {e : Env} : @sel false t a ⟨e⟩ = e t := rfl
@[go_sem] theorem upd_app {d t : Nat} {a : AV} : upd e d a t = @sel (t == d) t ⟨a⟩ ⟨e⟩ := by
  unfold upd sel
  by_cases h : t = d
  · rw [if_pos h, show (t == d) = true by simpa using h]; rfl
  · rw [if_neg h, show (t == d) = false by simpa using h]; rfl
end

end Go.Lv
