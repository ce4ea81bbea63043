/- A value semantics of the loaded code, its soundness, and walks through functions over it. -/
import Derived.Test.YtbfcbjmoijiffaaGreatLvAll9
import Derived.Shelf.Bytes.SlClone
import Derived.Shelf.SlicesE.Clone
set_option linter.unusedVariables false
set_option linter.unusedSimpArgs false
/-! bytes.Clone and slices.Clone. -/
namespace Go.Lv
open Go.Proofs Go.Shelf
open Go.RowKit Go.Lib
section
variable {P : Program} {F : Facts} {L : List Nat} {w : World} {H : Heap}

def u8s : List AV → Option (List Int)
  | [] => some []
  | .v (.int .u8 n) :: r => (u8s r).map (n :: ·)
  | _ => none
theorem u8s_spec : ∀ {xs : List AV} {ns : List Int}, u8s xs = some ns → xs = ns.map fun n => AV.v (.int .u8 n) := by
  intro xs
  induction xs with
  | nil => intro ns h; injection h with h; subst h; rfl
  | cons x xs ih =>
    intro ns h
    unfold u8s at h
    split at h
    · rename_i he; cases he
    · rename_i n r he
      injection he with h1 h2; subst h1 h2
      obtain ⟨ms, hm, rfl⟩ := Option.map_eq_some_iff.1 h
      rw [ih hm]; rfl
    · cases h
theorem u8s_bytes (l : List UInt8) : u8s (l.map byteA) = some (l.map fun b => (b.toNat : Int)) := by
  induction l with
  | nil => rfl
  | cons b l ih => simp only [List.map_cons, byteA, u8s]; rw [show (l.map byteA) = (l.map fun b => AV.v (.int .u8 b.toNat)) from rfl] at ih; rw [show List.map byteA l = (l.map fun b => AV.v (.int .u8 b.toNat)) from rfl, ih]; rfl

def cloneB (H : Heap) : List AV → Option (AV × Heap)
  | [.sl xs] => (u8s xs).bind fun _ => if xs.length ≤ 140737488355328 then some (.sl xs, H) else none
  | [.mr j off len 1 false] => (H[j]?).bind fun cs => (u8s ((cs.drop off).take len)).bind fun _ => if off + len ≤ cs.length ∧ 0 < len ∧ len ≤ 140737488355328 ∧ isMv cs = false then some (.sl ((cs.drop off).take len), H) else none
  | _ => none

theorem row_u8 (ns : List Int) : Row F L 1 (ns.map fun n => AV.v (.int .u8 n)) (ns.map (Value.int .u8)) := by
  refine ⟨by simp, fun i e h => ?_, fun i e k c h hk => ?_⟩
  · obtain ⟨n, _, rfl⟩ := List.mem_map.1 (List.mem_of_getElem? h); rfl
  · rw [List.getElem?_map] at h
    obtain ⟨n, hn, rfl⟩ := Option.map_eq_some_iff.1 h
    cases k with
    | zero =>
      injection hk with hk; subst hk
      rw [List.getD_eq_getElem?_getD, Nat.mul_one, Nat.add_zero, List.getElem?_map, hn]
      exact .sc _ rfl
    | succ k => cases hk

theorem cloneB_ok {ρ : Ren} (hL : SlLaysK.n4 P ρ) {args : List AV} {r : AV} {H' : Heap} (h : cloneB H args = some (r, H')) : CallOK P (cloneSig 1) (ρ.f 4) args H r H' := by
  intro F L w vs hS hvl hrel hown hglob
  have fin : ∀ (ns : List Int) (xs : List AV) (a : Addr) (c : Nat) (v : Value), xs = ns.map (fun n => AV.v (.int .u8 n)) → v = .slice (some a) xs.length c → xs.length ≤ 140737488355328 → (∀ i, i < ns.length → w.cell? (a.add i) = some (.int .u8 (ns.getD i 0))) →
      Calls P (ρ.f 4) #[v] w (fun e w' => ∃ v F' L', e = .returned v ∧ Ret P (cloneSig 1) F L w vs (.sl xs) H v F' L' w') := by
    intro ns xs a c v hx hv hlen hc
    subst hv
    have hnl : ns.length = xs.length := by rw [hx]; simp
    refine (Any.bytes_Clone_at hL a xs.length c ns w hnl hlen (fun i hi => hc i (by omega))).mono ?_
    rintro e w' ⟨v', rfl, ho, hne, hb⟩
    obtain ⟨F', L', hR⟩ := clone_end (vs := vs) hS (hx ▸ row_u8 ns) (by intro u hu; obtain ⟨n, _, rfl⟩ := List.mem_map.1 hu; rfl) (by omega) ho hb
    exact ⟨v', F', L', rfl, hR⟩
  have none_ : ∀ (c : Nat), Calls P (ρ.f 4) #[.slice none 0 c] w (fun e w' => ∃ v F' L', e = .returned v ∧ Ret P (cloneSig 1) F L w vs (.sl []) H v F' L' w') := by
    intro c
    refine (Any.bytes_Clone_nil hL 0 c w).mono ?_
    rintro e w' ⟨rfl, rfl⟩
    obtain ⟨F', L', hR⟩ := clone_end (n := 1) (t := 0) (xs := []) (news := []) (vs := vs) (v' := .slice none 0 0) hS (Row.nil 1) (by simp) (by omega) ⟨by simp, .inl ⟨rfl, rfl⟩⟩ (Below.refl _ _)
    exact ⟨_, F', L', rfl, hR⟩
  unfold cloneB at h
  split at h
  · rename_i xs
    obtain ⟨ns, hns, h⟩ := Option.bind_eq_some_iff.1 h
    split at h
    · rename_i hlen
      injection h with h; injection h with h1 h2; subst h1 h2
      have hx := u8s_spec hns
      match vs, hvl with
      | [v], _ =>
        have r0 := hrel 0 _ rfl
        simp only [List.getD_cons_zero] at r0
        obtain ⟨ad, cap, news, rfl, hcap, hnone, hrow, hone, hF⟩ := r0.row hS (n := 1) (by rw [hx]; intro a ha; obtain ⟨n, _, rfl⟩ := List.mem_map.1 ha; rfl)
        cases ad with
        | none =>
          have h0 : xs = [] := by
            apply List.eq_nil_of_length_eq_zero
            have := hnone rfl; omega
          subst h0
          exact none_ cap
        | some a =>
          refine fin ns xs a cap _ hx rfl hlen fun i hi => ?_
          have hnl : ns.length = xs.length := by rw [hx]; simp
          have hnw := hrow.len
          have hne : news ≠ [] := by intro he; rw [he] at hnw; simp at hnw; omega
          obtain ⟨B, o, ha, hf⟩ := hF hne
          injection ha with ha; subst ha
          have hxi : xs[i]? = some (AV.v (.int .u8 (ns.getD i 0))) := by
            rw [hx, List.getElem?_map, List.getD_eq_getElem?_getD, List.getElem?_eq_getElem hi]; rfl
          have := hrow.rel i _ 0 _ hxi rfl
          obtain ⟨e, _⟩ := this.v_eq
          rw [Nat.mul_one, Nat.add_zero] at e
          have hni : news[i]? = some (.int .u8 (ns.getD i 0)) := by
            rw [e]; exact getD_get (by omega)
          have hc := (hS.mem _ _ _ (hf i _ hni)).1
          rw [show Addr.add ⟨B, o, none⟩ i = ⟨B, o + i, none⟩ from add_at ..]
          exact hc
      | [], h => simp at h
      | _ :: _ :: _, h => simp at h
    · cases h
  · rename_i j off len
    obtain ⟨cs, hj, h⟩ := Option.bind_eq_some_iff.1 h
    obtain ⟨ns, hns, h⟩ := Option.bind_eq_some_iff.1 h
    split at h
    · rename_i hc
      obtain ⟨c1, c2, c3, c4⟩ := hc
      injection h with h; injection h with h1 h2; subst h1 h2
      have hx := u8s_spec hns
      match vs, hvl with
      | [v], _ =>
        have r0 := hrel 0 _ rfl
        simp only [List.getD_cons_zero] at r0
        cases r0 with
        | mr _ _ _ _ cap B _ hB hcap hn0 hroom hxx =>
          have hcne : cs ≠ [] := by intro he; rw [he] at c1; simp at c1; omega
          obtain ⟨arr, ta, m1, m2, m3, m4⟩ := hS.obj j cs B hj hcne c4 hB
          have hxl : ((cs.drop off).take len).length = len := by simp; omega
          have hnl : ns.length = len := by rw [← hxl, hx]; simp
          refine fin ns _ ⟨B, off, none⟩ cap _ hx (by rw [hxl]) (by omega) fun i hi => ?_
          have hxi : ((cs.drop off).take len)[i]? = some (AV.v (.int .u8 (ns.getD i 0))) := by
            rw [hx, List.getElem?_map, List.getD_eq_getElem?_getD, List.getElem?_eq_getElem hi]; rfl
          rw [List.getElem?_take, if_pos (by omega), List.getElem?_drop] at hxi
          obtain ⟨e, _⟩ := (m4 _ _ hxi).v_eq
          rw [show Addr.add ⟨B, off, none⟩ i = ⟨B, off + i, none⟩ from add_at .., m1.cell, e]
          exact getD_get (by omega)
      | [], h => simp at h
      | _ :: _ :: _, h => simp at h
    · cases h
  · cases h

/-! ### slices.Clone, at elements of whatever size -/
def cloneT (n by_ : Nat) (H : Heap) : List AV → Option (AV × Heap)
  | [.v (.slice none 0 0)] => some (.v (.slice none 0 0), H)
  | [.sl xs] => if xs.length * by_ ≤ 140737488355328 ∧ xs.length ≤ 140737488355328 ∧ (∀ a ∈ xs, a.cells.length = n) ∧ 0 < n then
      (if 0 < xs.length then some (.ow xs H.length, H ++ [[.tk (xs.length * n)]]) else some (.sl [], H)) else none
  | [.ow xs _] => if xs.length * by_ ≤ 140737488355328 ∧ xs.length ≤ 140737488355328 ∧ (∀ a ∈ xs, a.cells.length = n) ∧ 0 < n ∧ 0 < xs.length then some (.ow xs H.length, H ++ [[.tk (xs.length * n)]]) else none
  | _ => none

set_option maxHeartbeats 2000000 in
set_option maxRecDepth 100000 in
/-- A slice without elements, at whatever address. -/
theorem clone_empty {ρ : Ren} (L : SlLaysE0.n41 P ρ) (i0 : TypeInfo) (z : Value) (size bytes : Nat) (hi : P.info? (ρ.t 23) = some i0) (hz0 : i0.zero = some z) (hz1 : i0.size = size) (hz2 : i0.bytes = bytes) (hzs : z.cells.size = size) (hsz : 0 < size)
    (z23 : ∀ w, (Go.sizeOf (ρ.t 23)).run P w = .ok size w) (a : Addr) (c : Nat) (w : World) :
    Calls P (ρ.f 41) #[.slice (some a) 0 c] w fun e w' => ∃ v', e = .returned v' ∧ w'.ownsRow w.heap.size (ρ.t 23) size v' 0 [] ∧ Below w.heap.size w w' := by
  have mixed := L.mixed; have t4 := L.t4; have a4 := L.a4; have z4 := L.z4; have v4 := L.v4; have t22 := L.t22; have a22 := L.a22; have z22 := L.z22; have v22 := L.v22
  have q22 : ∀ (w : World) (a : Option Addr) (n c n' c' : Nat), (binOp .eql (ρ.t 22) (.slice a n c) (.slice none n' c')).run P w = .ok (.bool a.isNone) w := fun w a n c n' c' => Lib.run_eql_slice_nil w _ _ a n c n' c' L.t22
  have u22 : ∀ w, Sem.run P (underlying (ρ.t 22)) w = .ok (TypeDesc.slice (ρ.t 23)) w := run_underlying t22
  obtain ⟨_, _, FG⟩ := L.f41
  go_enter FG, SlBodyN.n41_ntmps ρ
  go_wp2_with (at_builtin; refine wpList_append_own _ rfl _ _ (ρ.t 22) rfl w.heap.size (ρ.t 23) i0 z size bytes t22 hi hz0 hz1 hz2 hzs hsz _ _ _ rfl (World.ownsRow_made w #[] 0 (Nat.le_refl _) (Nat.zero_le _) (by simp)) a 0 c [] rfl (by simp) (by simp) (by simp) (by simp) (by simp) (by simp) ?_)
  intro v' w1 hown hgrow hnil
  go_wp2
  go_ret
  refine ⟨v', rfl, by simpa using hown, ?_⟩
  exact ((Below.refl _ w).alloc (Nat.le_refl _) _).grown hgrow (by simp) (by intro k hk; simp [Value.ownBlock] at hk; omega)

theorem cloneT_ok {ρ : Ren} {n by_ : Nat} (hL : SlLaysE0.n41 P ρ) {z : Value} (hi : (P.info? (ρ.t 23)).map (fun i => (i.zero, i.size, i.bytes)) = some (some z, n, by_)) (hzs : z.cells.size = n)
    {args : List AV} {r : AV} {H' : Heap} (h : cloneT n by_ H args = some (r, H')) : CallOK P {} (ρ.f 41) args H r H' := by
  intro F L w vs hS hvl hrel hown hglob
  obtain ⟨i0, hi, hz⟩ := Option.map_eq_some_iff.1 hi
  injection hz with hz0 hz; injection hz with hz1 hz2
  have z23 : ∀ w, (Go.sizeOf (ρ.t 23)).run P w = .ok n w := fun w => by simp [Go.sizeOf, typeInfo, hi, hz1]
  have nil_ : ∀ (c : Nat) (a : AV), a = .sl [] ∨ a = .v (.slice none 0 0) → Calls P (ρ.f 41) #[.slice none 0 c] w (fun e w' => ∃ v F' L', e = .returned v ∧ Ret P {} F L w vs a H v F' L' w') := by
    intro c a ha
    refine (AnyE.slices_Clone_nil hL 0 c w).mono ?_
    rintro e w' ⟨rfl, rfl⟩
    refine ⟨_, F, L, rfl, ?_, hS, (Goes.refl _ F L w').weaken (fun _ _ h => h), by simp, by simp⟩
    rcases ha with rfl | rfl
    · exact .sl0 none 0 (fun _ => rfl)
    · exact .sc _ rfl
  have pos : ∀ (xs : List AV) (v : Value), 0 < n → xs.length * by_ ≤ 140737488355328 → xs.length ≤ 140737488355328 → (∀ a ∈ xs, a.cells.length = n) → 0 < xs.length → Rel F L (.sl xs) v →
      Calls P (ρ.f 41) #[v] w (fun e w' => ∃ v F' L', e = .returned v ∧ Ret P {} F L w vs (.ow xs H.length) (H ++ [[.tk (xs.length * n)]]) v F' L' w') := by
    intro xs v hn c1 c2 c3 c4 r0
    obtain ⟨ad, cap, news, rfl, hcap, hnone, hrow, hone, hF⟩ := r0.row hS c3
    have hnw := hrow.len
    have hpos : 0 < xs.length * n := Nat.mul_pos c4 hn
    obtain ⟨B, o, rfl, hf⟩ := hF (by intro he; rw [he] at hnw; simp at hnw; omega)
    refine (AnyE.slices_Clone hL i0 z n by_ hi hz0 hz1 hz2 hzs hn z23 B o xs.length cap news w hnw (by unfold maxLen; omega) c1 (fun j u hu => (hS.mem _ _ _ (hf j u hu)).1) hone).mono ?_
    rintro e w' ⟨v', rfl, ho, hne, hb⟩
    obtain ⟨F', L', hR⟩ := clone_endT (vs := vs) hS hrow hone hn c4 ho hb
    have hR' := hR
    exact ⟨v', F', L', rfl, hR⟩
  have one : ∀ (a : AV), args = [a] → ∃ v, vs = [v] := by
    intro a ha
    rw [ha] at hvl
    match vs, hvl with
    | [v], _ => exact ⟨v, rfl⟩
  unfold cloneT at h
  split at h
  · injection h with h; injection h with h1 h2; subst h1 h2
    obtain ⟨v, rfl⟩ := one _ rfl
    have r0 : Rel F L _ v := hrel 0 _ rfl
    obtain ⟨e, _⟩ := r0.v_eq
    subst e
    exact nil_ 0 _ (.inr rfl)
  · rename_i xs
    obtain ⟨v, rfl⟩ := one _ rfl
    have r0 : Rel F L _ v := hrel 0 _ rfl
    split at h
    · rename_i hc
      obtain ⟨c1, c2, c3, c4⟩ := hc
      split at h
      · rename_i h0
        injection h with h; injection h with h1 h2; subst h1 h2
        exact pos xs v c4 c1 c2 c3 h0 r0
      · rename_i h0
        injection h with h; injection h with h1 h2; subst h1 h2
        have : xs = [] := List.eq_nil_of_length_eq_zero (by omega)
        subst this
        cases r0 with
        | sl0 a cap ha =>
          cases a with
          | none => exact nil_ cap _ (.inl rfl)
          | some a =>
            refine (clone_empty hL i0 z n by_ hi hz0 hz1 hz2 hzs c4 z23 a cap w).mono ?_
            rintro e w' ⟨v', rfl, ho, hb⟩
            obtain ⟨hS1, hg1⟩ := hS.below hb
            refine ⟨v', F, L, rfl, ?_, hS1, hg1.weaken (fun _ _ h => h.elim), by simp, by simp⟩
            rcases ho.2 with ⟨rfl, _⟩ | ⟨g, cap, cur, rfl, _⟩
            · exact .sl0 none 0 (fun _ => rfl)
            · exact .sl0 _ _ (by simp)
        | sl _ _ _ _ _ _ _ hl h0' => simp at hl; omega
    · cases h
  · rename_i xs j
    obtain ⟨v, rfl⟩ := one _ rfl
    have r0 : Rel F L _ v := hrel 0 _ rfl
    split at h
    · rename_i hc
      obtain ⟨c1, c2, c3, c4, c5⟩ := hc
      injection h with h; injection h with h1 h2; subst h1 h2
      exact pos xs v c4 c1 c2 c3 c5 r0.owA
    · cases h
  · cases h
end
end Go.Lv
set_option linter.unusedVariables false
set_option linter.unusedSimpArgs false
/-! Bytes held against one another, rows that may be written too. -/
namespace Go.Lv
section
variable {P : Program} {F : Facts} {L : List Nat} {w : World} {H : Heap} {X : Nat → Prop}

def bytesV (H : Heap) : AV → Option ByteArray
  | .sl xs => bytesOfA xs
  | .mr j off len 1 false => (H[j]?).bind fun cs => if 0 < len ∧ off + len ≤ cs.length ∧ isMv cs = false then bytesOfA ((cs.drop off).take len) else none
  | _ => none
theorem bytesV_run (hS : St P F L X w H) {s d e : TypeId} (h1 : P.underlying s = some (.slice e)) (he : P.underlying e = some (.int .u8)) (h2 : P.underlying d = some .string) {a : AV} {v : Value} {str : ByteArray} (ha : Rel F L a v) (h : bytesV H a = some str) :
    (convert s d v).run P w = .ok (.string str) w := by
  unfold bytesV at h
  split at h
  · rename_i xs
    have hc : conv P s d (.sl xs) = some (.s str) := by
      unfold conv
      simp only [h1, h2, he, h, Option.map_some]
    obtain ⟨u, hu, hr⟩ := conv_same_run hS ha hc (fun x => .inl (by simp))
    obtain ⟨e, _⟩ := hr.v_eq
    rw [hu, ← e]
  · rename_i j off len
    obtain ⟨cs, hj, h⟩ := Option.bind_eq_some_iff.1 h
    split at h
    · rename_i hc
      obtain ⟨c1, c2, c3⟩ := hc
      obtain ⟨ns, hns, rfl⟩ := bytesOfA_some h
      cases ha with
      | mr _ _ _ _ cap B _ hB hcap hn0 hroom hxx =>
        have hcne : cs ≠ [] := by intro he; rw [he] at c2; simp at c2; omega
        obtain ⟨arr, ta, m1, m2, m3, m4⟩ := hS.obj j cs B hj hcne c3 hB
        have hxl : ((cs.drop off).take len).length = len := by simp; omega
        have hnl : ns.length = len := by rw [← hxl, hns]; simp
        refine run_convert_bytes_arg w s e h1 he B off len cap ns hnl (fun i hi => ?_) d h2
        have hxi : ((cs.drop off).take len)[i]? = some (AV.v (.int .u8 ns[i])) := by
          rw [hns, List.getElem?_map, List.getElem?_eq_getElem (by omega)]; rfl
        rw [List.getElem?_take, if_pos (by omega), List.getElem?_drop] at hxi
        obtain ⟨e, _⟩ := (m4 _ _ hxi).v_eq
        rw [m1.cell, show ns.getD i 0 = ns[i] by simp [List.getD_eq_getElem?_getD, List.getElem?_eq_getElem (show i < ns.length by omega)], e]
        exact getD_get (by omega)
    · cases h
  · cases h

/-- What the call does, at bytes that are read. -/
def EqualsB (P : Program) (f : FuncId) (s d : TypeId) : Prop :=
  ∀ (w : World) (va vb : Value) (x y : ByteArray), (convert s d va).run P w = .ok (.string x) w → (convert s d vb).run P w = .ok (.string y) w → Calls P f #[va, vb] w fun e w' => e = .returned (.bool (x.toList == y.toList)) ∧ w' = w

def equalT (H : Heap) : List AV → Option (AV × Heap)
  | [a, b] => (bytesV H a).bind fun x => (bytesV H b).map fun y => (.b (x.toList == y.toList), H)
  | _ => none
theorem equalT_ok {f : FuncId} {s d e : TypeId} (h1 : P.underlying s = some (.slice e)) (he : P.underlying e = some (.int .u8)) (h2 : P.underlying d = some .string) (hc : EqualsB P f s d) {args : List AV} {r : AV} {H' : Heap} (h : equalT H args = some (r, H')) : CallOK P {} f args H r H' := by
  intro F L w vs hS hvl hrel hown hglob
  unfold equalT at h
  split at h
  · rename_i a b
    obtain ⟨x, hx, h⟩ := Option.bind_eq_some_iff.1 h
    obtain ⟨y, hy, h⟩ := Option.map_eq_some_iff.1 h
    injection h with h3 h4; subst h3 h4
    match vs, hvl with
    | [va, vb], _ =>
      have ra : Rel F L a va := hrel 0 _ rfl
      have rb : Rel F L b vb := hrel 1 _ rfl
      refine (hc w va vb x y (bytesV_run hS h1 he h2 ra hx) (bytesV_run hS h1 he h2 rb hy)).mono ?_
      rintro e w' ⟨rfl, rfl⟩
      exact ⟨_, F, L, rfl, .sc _ rfl, hS, (Goes.refl _ F L w').weaken (fun _ _ h => h), by simp, by simp⟩
    | [], h => simp at h
    | [_], h => simp at h
    | _ :: _ :: _ :: _, h => simp at h
  · cases h
end
end Go.Lv
