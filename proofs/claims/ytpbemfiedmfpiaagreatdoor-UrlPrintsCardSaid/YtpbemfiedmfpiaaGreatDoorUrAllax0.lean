/- Addresses: their cells, and as arguments. -/
import Derived.Test.YtpbemfiedmfpiaaGreatDoorHoAllex0
import Derived.Test.YtpbemfiedmfpiaaGreatDoorLvAll19
import Derived.Test.YtpbemfiedmfpiaaGreatDoorLvAll11
import Derived.KernelRfl
set_option linter.unusedVariables false
set_option linter.unusedSimpArgs false
namespace Go.Proofs
open Go.Lv
namespace Hs
open Pu Ut Utf In
structure UrlV where
 scheme : List UInt8
 user : List UInt8
 pass : List UInt8
 has : Bool
 host : HostV
 port : Int
 dark : Bool
 text : List UInt8
 path : List (List UInt8)
 hasQ : Bool
 q : List UInt8
 hasF : Bool
 f : List UInt8
def ucells (u : UrlV) (p : AV) : List AV := .str u.scheme :: .str u.user :: .str u.pass :: .b u.has :: (u.host.cells ++ [.i u.port, .b u.dark, .str u.text, p, .b u.hasQ, .str u.q, .b u.hasF, .str u.f])
def pathC (u : UrlV) : AV := .sl (u.path.map AV.str)
def UrlV.cells (u : UrlV) : List AV := ucells u (pathC u)
def HostV.fine (h : HostV) : Prop := h.l.length = 8 ∧ Ho.u16s h.l ∧ 0 ≤ h.v ∧ h.v < 4294967296
def UrlV.fine (u : UrlV) : Prop := u.scheme.length ≤ 140737488351232 ∧ u.user.length ≤ 140737488351232 ∧ u.pass.length ≤ 140737488351232 ∧ u.host.n.length ≤ 140737488351232 ∧ u.text.length ≤ 140737488351232 ∧ u.q.length ≤ 140737488351232 ∧ u.f.length ≤ 140737488351232
 ∧ u.path.length * 16 ≤ 140737488351232 ∧ (∀ x ∈ u.path, x.length ≤ 140737488351232) ∧ u.host.fine ∧ -9223372036854775808 ≤ u.port ∧ u.port ≤ 9223372036854775807
theorem HostV.fine_of {h : HostV} (o : h.ok) : h.fine := by
 obtain ⟨o1, o2, o3, o4⟩ := o
 simp [Lit.wf, IntKind.min, IntKind.max, IntKind.signed, IntKind.bits] at o2
 exact ⟨o3, fun x hx => by
  have := o4 x hx
  simp [Lit.wf, IntKind.min, IntKind.max, IntKind.signed, IntKind.bits] at this
  omega, by omega, by omega⟩
theorem hcells_len' (h : HostV) (h8 : h.l.length = 8) : h.cells.length = 11 := hcells_len h8
theorem hcells_one' (h : HostV) : h.cells.all AV.one = true := hcells_one
theorem u_len (u : UrlV) (p : AV) (h8 : u.host.l.length = 8) : (ucells u p).length = 23 := by
 unfold ucells
 simp [hcells_len' u.host h8]
theorem u_one (u : UrlV) (p : AV) (hp : p.one = true) : (ucells u p).all AV.one = true := by
 unfold ucells
 have e1 : ∀ s : List UInt8, (AV.str s).one = true := fun _ => rfl
 have e2 : ∀ v : Value, (AV.v v).one = true := fun _ => rfl
 simp only [List.all_cons, List.all_append, hcells_one', hp, e1, e2, List.all_nil, Bool.and_true, Bool.true_and]
theorem u_get (u : UrlV) (p : AV) (h8 : u.host.l.length = 8) : (ucells u p)[15]? = some (.i u.port) ∧ (ucells u p)[16]? = some (.b u.dark) ∧ (ucells u p)[17]? = some (.str u.text) ∧ (ucells u p)[18]? = some p ∧ (ucells u p)[19]? = some (.b u.hasQ) ∧ (ucells u p)[20]? = some (.str u.q) ∧ (ucells u p)[21]? = some (.b u.hasF) ∧ (ucells u p)[22]? = some (.str u.f) ∧ ((ucells u p).drop 4).take 11 = u.host.cells := by
 have hl := hcells_len' u.host h8
 unfold ucells
 generalize u.host.cells = cs at *
 match cs, hl with
 | [_, _, _, _, _, _, _, _, _, _, _], _ => exact ⟨rfl, rfl, rfl, rfl, rfl, rfl, rfl, rfl, rfl⟩
theorem u_set (u : UrlV) (p q : AV) (h8 : u.host.l.length = 8) : (ucells u p).take 18 ++ [q] ++ (ucells u p).drop 19 = ucells u q := by
 have hl := hcells_len' u.host h8
 unfold ucells
 generalize u.host.cells = cs at *
 match cs, hl with
 | [_, _, _, _, _, _, _, _, _, _, _], _ => rfl
theorem opens_strs {W : World} {HH : Type} {enc : TypeId × Value → HH} : Opens Tryz.prog W enc 28 (fun l : List (List UInt8) => [AV.sl (l.map fun a => elA false [AV.str a])]) (fun l => l.length * 16 ≤ 140737488351232 ∧ ∀ a ∈ l, a.length ≤ 140737488351232) :=
 Opens.slice (n := 1) (by_ := 16) false Tryz.underlying28 (by kernel_rfl) Nat.one_pos (by kernel_rfl) (fun _ => rfl) (Opens.str Tryz.underlying9 (by kernel_rfl)) (by kernel_rfl)
theorem opens_s {W : World} {HH : Type} {enc : TypeId × Value → HH} : Opens Tryz.prog W enc 9 (fun s : List UInt8 => [AV.str s]) (fun s => s.length ≤ 140737488351232) := Opens.str Tryz.underlying9 (by kernel_rfl)
theorem opens_b {W : World} {HH : Type} {enc : TypeId × Value → HH} : Opens Tryz.prog W enc 4 (fun b : Bool => [AV.b b]) (fun _ => True) := Opens.bool Tryz.underlying4 (by kernel_rfl)
theorem opens_url {W : World} {HH : Type} {enc : TypeId × Value → HH} : Opens Tryz.prog W enc 30 UrlV.cells UrlV.fine :=
 Opens.iso (fun p : List UInt8 × List UInt8 × List UInt8 × Bool × HostV × Int × Bool × List UInt8 × List (List UInt8) × Bool × List UInt8 × Bool × List UInt8 × Unit =>
   (⟨p.1, p.2.1, p.2.2.1, p.2.2.2.1, p.2.2.2.2.1, p.2.2.2.2.2.1, p.2.2.2.2.2.2.1, p.2.2.2.2.2.2.2.1, p.2.2.2.2.2.2.2.2.1, p.2.2.2.2.2.2.2.2.2.1, p.2.2.2.2.2.2.2.2.2.2.1, p.2.2.2.2.2.2.2.2.2.2.2.1, p.2.2.2.2.2.2.2.2.2.2.2.2.1⟩ : UrlV))
  (Opens.struct Tryz.underlying30 (tot := 23) (by kernel_rfl)
   (OpensF.cons (n0 := 1) opens_s rfl (by kernel_rfl) (OpensF.cons (n0 := 1) opens_s rfl (by kernel_rfl) (OpensF.cons (n0 := 1) opens_s rfl (by kernel_rfl) (OpensF.cons (n0 := 1) opens_b rfl (by kernel_rfl)
    (OpensF.cons (n0 := 11) opens_host rfl (by kernel_rfl) (OpensF.cons (n0 := 1) (opens_int W) rfl (by kernel_rfl) (OpensF.cons (n0 := 1) opens_b rfl (by kernel_rfl) (OpensF.cons (n0 := 1) opens_s rfl (by kernel_rfl)
     (OpensF.cons (n0 := 1) opens_strs rfl (by kernel_rfl) (OpensF.cons (n0 := 1) opens_b rfl (by kernel_rfl) (OpensF.cons (n0 := 1) opens_s rfl (by kernel_rfl) (OpensF.cons (n0 := 1) opens_b rfl (by kernel_rfl)
      (OpensF.cons (n0 := 1) opens_s rfl (by kernel_rfl) OpensF.nil rfl) rfl) rfl) rfl) rfl) rfl) rfl) rfl) rfl) rfl) rfl) rfl) rfl))
  (fun p => by
   obtain ⟨a, b, c, d, e, f, g, h, i, j, k, l, m, n⟩ := p
   simp [UrlV.cells, ucells, pathC, elA])
  (fun p hp => by
   obtain ⟨a, b, c, d, e, f, g, h, i, j, k, l, m, n⟩ := p
   obtain ⟨h1, h2, h3, _, h5, h6, _, h8, h9, _, h11, _, h13, _⟩ := hp
   have h6' := h6
   simp [Lit.wf, IntKind.min, IntKind.max, IntKind.signed, IntKind.bits] at h6'
   exact ⟨h1, h2, h3, h5.1, h8, h11, h13, h9.1, h9.2, HostV.fine_of h5, by simp only; omega, by simp only; omega⟩)
end Hs
end Go.Proofs
/- Walks: any number in decimal digits, the document's side. -/
set_option linter.unusedVariables false
set_option linter.unusedSimpArgs false
namespace Go.Proofs
open Go.Lv
namespace Hs
open Pu Ut Utf In
theorem digs_len : ∀ (k u : Nat), u < 10 ^ (k + 1) → (Lib.decDigits u).length ≤ k + 1 := by
 intro k
 induction k with
 | zero => intro u h; rw [Lib.decDigits, dif_pos (by simpa using h)]; simp
 | succ k ih =>
  intro u h
  rw [Lib.decDigits]
  split
  ·simp
  ·rw [List.length_append]
   have := ih (u / 10) (by rw [Nat.pow_succ] at h; omega)
   simp only [List.length_cons, List.length_nil]; omega
theorem itoa_len {n : Int} (h0 : -9223372036854775808 ≤ n) (h1 : n ≤ 9223372036854775807) : (Lib.itoa n).length ≤ 20 := by
 unfold Lib.itoa
 split
 ·have := digs_len 18 n.natAbs (by omega)
  simp only [List.length_cons]; omega
 ·have := digs_len 18 n.toNat (by omega)
  omega
theorem ch_of {n : Int} (m : Nat) (h : n = m) : Ho.ch n = UInt8.ofNat (48 + m) := by
 subst h
 unfold Ho.ch
 rw [Int.toNat_natCast]
theorem itoa_pos1 {n : Int} (h0 : 0 ≤ n) (h1 : n < 10) : Lib.itoa n = [Ho.ch n] := by
 unfold Lib.itoa
 rw [if_neg (by omega), Lib.decDigits, dif_pos (by omega), ch_of n.toNat (by omega)]
theorem itoa_pos {n : Int} (h0 : 10 ≤ n) : Lib.itoa n = Lib.itoa (n / 10) ++ [Ho.ch (n % 10)] := by
 unfold Lib.itoa
 rw [if_neg (by omega), if_neg (by omega), Lib.decDigits, dif_neg (by omega), ch_of (n.toNat % 10) (by omega), show (n / 10).toNat = n.toNat / 10 by omega]
theorem itoa_neg1 {n : Int} (h0 : n < 0) (h1 : -10 < n) : Lib.itoa n = [45] ++ [Ho.ch (-n)] := by
 unfold Lib.itoa
 rw [if_pos h0, Lib.decDigits, dif_pos (by omega), ch_of n.natAbs (by omega)]; rfl
theorem itoa_neg {n q r : Int} (h0 : n ≤ -10) (hq : n = 10 * q + r) (hr0 : r ≤ 0) (hr1 : -10 < r) : Lib.itoa n = [45] ++ Lib.itoa (-q) ++ [Ho.ch (-r)] := by
 unfold Lib.itoa
 rw [if_pos (by omega), if_neg (by omega), Lib.decDigits, dif_neg (by omega), ch_of (n.natAbs % 10) (by omega), show n.natAbs / 10 = (-q).toNat by omega]
 simp
theorem one_n {r : Int} (h0 : r ≤ 0) (h1 : -10 < r) : AV.sl [.v (.int .u8 (48 - r))] = .sl ([Ho.ch (-r)].map byteA) := by
 have := one_b (n := -r) (by omega) (by omega)
 rwa [show 48 + -r = 48 - r by omega] at this
theorem bin_quoT {P : Program} {xt : TypeId} {n q r : Int} (hq : n = 10 * q + r) (hr0 : r ≤ 0) (hr1 : -10 < r) (hn : n < 0) (h0 : -9223372036854775808 ≤ n) : bin P .quo xt (.i n) (.i 10) = some (.i q) := by
 show some (AV.i (IntKind.i64.wrap (n.tdiv 10))) = _
 have e : n.tdiv 10 = q := by
  obtain ⟨m, rfl⟩ : ∃ m : Nat, n = -(m : Int) := ⟨n.natAbs, by omega⟩
  rw [Int.neg_tdiv, Int.tdiv_eq_ediv_of_nonneg (by omega)]
  omega
 rw [e]
 have hw : IntKind.i64.wrap q = q := by
  unfold IntKind.wrap
  simp [IntKind.bits, IntKind.signed]
  omega
 rw [hw]
theorem bin_remT {P : Program} {xt : TypeId} {n q r : Int} (hq : n = 10 * q + r) (hr0 : r ≤ 0) (hr1 : -10 < r) (hn : n < 0) : bin P .rem xt (.i n) (.i 10) = some (.i r) := by
 show some (AV.i (n.tmod 10)) = _
 have e : n.tmod 10 = r := by
  obtain ⟨m, rfl⟩ : ∃ m : Nat, n = -(m : Int) := ⟨n.natAbs, by omega⟩
  rw [Int.neg_tmod, Int.tmod_eq_emod_of_nonneg (by omega)]
  omega
 rw [e]
theorem decs_w : ∀ (m : Nat) (n : Int) (H : Heap), n.natAbs = m → -9223372036854775808 ≤ n → n ≤ 9223372036854775807 → WF Tryz.prog cfg 22 [.i n] H (fun r H' => r = .str (Lib.itoa n) ∧ H' = H) := by
 intro m
 induction m using Nat.strongRecOn with
 | _ m ih =>
  intro n H hm h0 h1
  by_cases hp : 0 ≤ n
  ·by_cases hs : n < 10
   ·rw [itoa_pos1 hp hs]; exact dec1_w n hp hs
   ·rw [itoa_pos (by omega)]
    have hm : ∀ d, cfg.muF 22 d = (false) := fun _ => rfl
    have hz : ∀ d, cfg.fzF 22 d = (false) := fun _ => rfl
    have ht : ∀ d, cfg.tkF 22 d = (false) := fun _ => rfl
    have hr_ : ∀ g, cfg.raw g = (g == 253 || g == 225 || g == 53) := fun _ => rfl
    refine rF_fn rfl rfl Tryz.func22 rfl ?_
    repeat' first|simp (disch:=first|omega|assumption|decide) only[go_sem,hm,hz,ht,hr_,wdl,bind_some_,map_some_,oneD_fold]|(apply ifP_in<;>intro)
    refine rF_use (ih (n / 10).natAbs (by omega) (n / 10) _ rfl (by omega) (by omega)) ?_
    rintro _ H1 ⟨rfl, rfl⟩
    have hw := wrap8 (n := 48 + n % 10) (by omega) (by omega)
    have hb := one_b (n := n % 10) (by omega) (by omega)
    have hl0 := itoa_len (n := n / 10) (by omega) (by omega)
    have hl2 := @l1 (Ho.ch (n % 10))
    repeat' first|simp (disch:=first|omega|assumption|decide) only[go_sem,hm,hz,ht,hr_,hw,hb,conv_b,wdl,bind_some_,map_some_,oneD_fold]|(apply ifP_in<;>intro)
  ·obtain ⟨q, r, hq, hr0, hr1⟩ : ∃ q r : Int, n = 10 * q + r ∧ r ≤ 0 ∧ -10 < r := ⟨-((-n) / 10), -((-n) % 10), by omega, by omega, by omega⟩
   have hbq := fun {P : Program} {xt : TypeId} => bin_quoT (P := P) (xt := xt) hq hr0 hr1 (by omega) h0
   have hbr := fun {P : Program} {xt : TypeId} => bin_remT (P := P) (xt := xt) hq hr0 hr1 (by omega)
   have hw := wrap8 (n := 48 - r) (by omega) (by omega)
   have hb := one_n hr0 hr1
   have hl2 := @l1 (Ho.ch (-r))
   have hl3 := @l1 45
   by_cases hs : -10 < n
   ·obtain rfl : q = 0 := by omega
    obtain rfl : n = r := by omega
    rw [itoa_neg1 (by omega) hs]
    have hm : ∀ d, cfg.muF 22 d = (false) := fun _ => rfl
    have hz : ∀ d, cfg.fzF 22 d = (false) := fun _ => rfl
    have ht : ∀ d, cfg.tkF 22 d = (false) := fun _ => rfl
    have hr_ : ∀ g, cfg.raw g = (g == 253 || g == 225 || g == 53) := fun _ => rfl
    refine rF_fn rfl rfl Tryz.func22 rfl ?_
    repeat' first|simp (disch:=first|omega|assumption|decide) only[go_sem,hm,hz,ht,hr_,hbq,hbr,hw,hb,conv_b,wdl,bind_some_,map_some_,oneD_fold]|(apply ifP_in<;>intro)
   ·rw [itoa_neg (by omega) hq hr0 hr1, show -q = 0 - q by omega]
    have hm : ∀ d, cfg.muF 22 d = (false) := fun _ => rfl
    have hz : ∀ d, cfg.fzF 22 d = (false) := fun _ => rfl
    have ht : ∀ d, cfg.tkF 22 d = (false) := fun _ => rfl
    have hr_ : ∀ g, cfg.raw g = (g == 253 || g == 225 || g == 53) := fun _ => rfl
    refine rF_fn rfl rfl Tryz.func22 rfl ?_
    repeat' first|simp (disch:=first|omega|assumption|decide) only[go_sem,hm,hz,ht,hr_,hbq,hbr,wdl,bind_some_,map_some_,oneD_fold]|(apply ifP_in<;>intro)
    refine rF_use (ih (0 - q).natAbs (by omega) (0 - q) _ rfl (by omega) (by omega)) ?_
    rintro _ H1 ⟨rfl, rfl⟩
    have hl0 := itoa_len (n := 0 - q) (by omega) (by omega)
    repeat' first|simp (disch := first | omega | assumption | decide | (simp only [List.length_append,List.length_cons,List.length_nil]; omega)) only [go_sem,hm,hz,ht,hr_,hbq,hbr,hw,hb,conv_b,wdl,bind_some_,map_some_,oneD_fold]|(apply ifP_in<;>intro)
theorem decs_e {n : Int} {H : Heap} (h0 : -9223372036854775808 ≤ n) (h1 : n ≤ 9223372036854775807) {Q : K (AV → Heap → Prop)} : @rF Tryz.prog cfg 22 [.i n] H Q = Q.v (.str (Lib.itoa n)) H := rF_eq (decs_w _ n H rfl h0 h1)
theorem itoas_e {n : Int} {H : Heap} (h0 : -9223372036854775808 ≤ n) (h1 : n ≤ 9223372036854775807) {Q : K (AV → Heap → Prop)} : @rF Tryz.prog cfg 56 [.i n] H Q = Q.v (.str (Lib.itoa n)) H := rF_eq (itoa_at rfl h0 h1)
end Hs
end Go.Proofs
/- Walks: lists of texts held against one another, in whatever row they stand. -/
set_option linter.unusedVariables false
set_option linter.unusedSimpArgs false
namespace Go.Proofs
open Go.Lv
namespace Hs
open Pu Ut Utf In
variable {H : Heap}
def ReadsS (H : Heap) (a : AV) (l : List (List UInt8)) : Prop := a = .sl (l.map AV.str) ∨ ∃ (j off : Nat) (xs : List (List UInt8)), a = .mr j off l.length 1 false ∧ H[j]? = some (xs.map AV.str) ∧ (xs.drop off).take l.length = l ∧ 0 < l.length
theorem reads_at {l xs : List (List UInt8)} {off : Nat} (hx : (xs.drop off).take l.length = l) {i : Nat} (hi : i < l.length) : xs[off + i]? = some l[i] := by
 have h : l[i]? = xs[off + i]? := by
  conv => lhs; rw [← hx]
  rw [List.getElem?_take, if_pos hi, List.getElem?_drop]
 rw [← h, xgE hi]
theorem take_more {l m : List (List UInt8)} {i : Nat} (hl : i < l.length) (hm : i < m.length) (h : l.take i = m.take i) : l.take (i + 1) = m.take (i + 1) ↔ l[i] = m[i] := by
 rw [List.take_succ_eq_append_getElem hl, List.take_succ_eq_append_getElem hm, h]
 constructor
 ·intro h2; exact (List.cons.inj (List.append_cancel_left h2)).1
 ·intro h2; rw [h2]
theorem ne_at {l m : List (List UInt8)} {i : Nat} (hl : i < l.length) (hm : i < m.length) (h : l[i] ≠ m[i]) : decide (l = m) = false := by
 refine decide_eq_false fun e => h ?_
 subst e; rfl
theorem texts_r (l m : List (List UInt8)) (hl : l.length ≤ 140737488355328) (hm_ : m.length ≤ 140737488355328) {a b : AV} (ha : ReadsS H a l) (hb : ReadsS H b m) : WF Tryz.prog cfg 45 [a, b] H (fun r H' => r = .b (decide (l = m)) ∧ H' = H) := by
 rcases ha with hA | ⟨j, off, xs, hA, hj, hx, h0⟩
 ·have hj : True := trivial
  have hxi : ∀ i, i < l.length → True := fun _ _ => trivial
  rcases hb with hB | ⟨j', off', xs', hB, hj', hx', h0'⟩
  ·have hj' : True := trivial
   have hxi' : ∀ i, i < m.length → True := fun _ _ => trivial
   have hm : ∀ d, cfg.muF 45 d = (false) := fun _ => rfl
   have hz : ∀ d, cfg.fzF 45 d = (false) := fun _ => rfl
   have ht : ∀ d, cfg.tkF 45 d = (false) := fun _ => rfl
   have hr_ : ∀ g, cfg.raw g = (g == 253 || g == 225 || g == 53) := fun _ => rfl
   refine rF_fn rfl rfl Tryz.func45 rfl ?_
   have hT : True := trivial
   by_cases hlen : l.length = m.length
   ·repeat' first|simp (disch:=first|omega|assumption|decide) only[go_sem,hm,hz,ht,hr_,hA,hB]|(apply ifP_in<;>intro)
    refine rL_loop (σ := Nat) (fun i e H' => H' = H ∧ e 0 = a ∧ e 1 = b ∧ e 5 = .i i ∧ i ≤ l.length ∧ l.take i = m.take i) (fun i => l.length - i) 0 ?_ ?_
    ·refine ⟨rfl, ?_, ?_, ?_, by omega, by simp⟩
     all_goals first | (simp (disch := first | assumption | omega) only [go_sem, hA, hB]; done) | (simp (disch := first | assumption | omega) only [go_sem, hA, hB]; rfl)
    ·rintro i e H' ⟨rfl, g0, g1, g5, i1, i2⟩
     rw [hA] at g0
     rw [hB] at g1
     by_cases hi : i < l.length
     ·have him : i < m.length := by omega
      have hix := ix_at hi
      have hix' := ix_at him
      have hxi := hxi i hi
      have hxi' := hxi' i him
      have htm := take_more hi him i2
      have hna := ne_at hi him
      generalize l[i] = x at *
      generalize m[i] = y at *
      by_cases hxy : x = y
      ·have hF : (x ≠ y) = False := by simp [hxy]
       have hD : decide (x ≠ y) = false := by simp [hxy]
       repeat' first|simp (disch:=first|omega|assumption|decide) only[go_sem,hm,hz,ht,hr_,g0,g1,g5,hix,hix',hj,hj',plainD_map,partD_map,hxi,hxi',hF,hD,hA,hB]|(apply ifP_in<;>intro)
       exact ⟨i + 1, ⟨rfl, by omega, htm.2 hxy⟩, by omega⟩
      ·have hD : decide (x ≠ y) = true := by simp [hxy]
       rw [hna hxy]
       repeat' first|simp (disch:=first|omega|assumption|decide) only[go_sem,hm,hz,ht,hr_,g0,g1,g5,hix,hix',hj,hj',plainD_map,partD_map,hxi,hxi',hxy,hD]|(apply ifP_in<;>intro)
     ·obtain rfl : i = l.length := by omega
      rw [List.take_length, hlen, List.take_length] at i2
      rw [decide_eq_true i2]
      repeat' first|simp (disch:=first|omega|assumption|decide) only[go_sem,hm,hz,ht,hr_,g0,g1,g5]|(apply ifP_in<;>intro)
   ·have hne : decide (l = m) = false := decide_eq_false fun e => hlen (by rw [e])
    rw [hne]
    repeat' first|simp (disch:=first|omega|assumption|decide) only[go_sem,hm,hz,ht,hr_,hA,hB]|(apply ifP_in<;>intro)
  ·have hxi' : ∀ i, (h : i < m.length) → xs'[off' + i]? = some m[i] := fun i hi => reads_at hx' hi
   have hm : ∀ d, cfg.muF 45 d = (false) := fun _ => rfl
   have hz : ∀ d, cfg.fzF 45 d = (false) := fun _ => rfl
   have ht : ∀ d, cfg.tkF 45 d = (false) := fun _ => rfl
   have hr_ : ∀ g, cfg.raw g = (g == 253 || g == 225 || g == 53) := fun _ => rfl
   refine rF_fn rfl rfl Tryz.func45 rfl ?_
   have hT : True := trivial
   by_cases hlen : l.length = m.length
   ·repeat' first|simp (disch:=first|omega|assumption|decide) only[go_sem,hm,hz,ht,hr_,hA,hB]|(apply ifP_in<;>intro)
    refine rL_loop (σ := Nat) (fun i e H' => H' = H ∧ e 0 = a ∧ e 1 = b ∧ e 5 = .i i ∧ i ≤ l.length ∧ l.take i = m.take i) (fun i => l.length - i) 0 ?_ ?_
    ·refine ⟨rfl, ?_, ?_, ?_, by omega, by simp⟩
     all_goals first | (simp (disch := first | assumption | omega) only [go_sem, hA, hB]; done) | (simp (disch := first | assumption | omega) only [go_sem, hA, hB]; rfl)
    ·rintro i e H' ⟨rfl, g0, g1, g5, i1, i2⟩
     rw [hA] at g0
     rw [hB] at g1
     by_cases hi : i < l.length
     ·have him : i < m.length := by omega
      have hix := ix_at hi
      have hix' := ix_at him
      have hxi := hxi i hi
      have hxi' := hxi' i him
      have htm := take_more hi him i2
      have hna := ne_at hi him
      generalize l[i] = x at *
      generalize m[i] = y at *
      by_cases hxy : x = y
      ·have hF : (x ≠ y) = False := by simp [hxy]
       have hD : decide (x ≠ y) = false := by simp [hxy]
       repeat' first|simp (disch:=first|omega|assumption|decide) only[go_sem,hm,hz,ht,hr_,g0,g1,g5,hix,hix',hj,hj',plainD_map,partD_map,hxi,hxi',hF,hD,hA,hB]|(apply ifP_in<;>intro)
       exact ⟨i + 1, ⟨rfl, by omega, htm.2 hxy⟩, by omega⟩
      ·have hD : decide (x ≠ y) = true := by simp [hxy]
       rw [hna hxy]
       repeat' first|simp (disch:=first|omega|assumption|decide) only[go_sem,hm,hz,ht,hr_,g0,g1,g5,hix,hix',hj,hj',plainD_map,partD_map,hxi,hxi',hxy,hD]|(apply ifP_in<;>intro)
     ·obtain rfl : i = l.length := by omega
      rw [List.take_length, hlen, List.take_length] at i2
      rw [decide_eq_true i2]
      repeat' first|simp (disch:=first|omega|assumption|decide) only[go_sem,hm,hz,ht,hr_,g0,g1,g5]|(apply ifP_in<;>intro)
   ·have hne : decide (l = m) = false := decide_eq_false fun e => hlen (by rw [e])
    rw [hne]
    repeat' first|simp (disch:=first|omega|assumption|decide) only[go_sem,hm,hz,ht,hr_,hA,hB]|(apply ifP_in<;>intro)
 ·have hxi : ∀ i, (h : i < l.length) → xs[off + i]? = some l[i] := fun i hi => reads_at hx hi
  rcases hb with hB | ⟨j', off', xs', hB, hj', hx', h0'⟩
  ·have hj' : True := trivial
   have hxi' : ∀ i, i < m.length → True := fun _ _ => trivial
   have hm : ∀ d, cfg.muF 45 d = (false) := fun _ => rfl
   have hz : ∀ d, cfg.fzF 45 d = (false) := fun _ => rfl
   have ht : ∀ d, cfg.tkF 45 d = (false) := fun _ => rfl
   have hr_ : ∀ g, cfg.raw g = (g == 253 || g == 225 || g == 53) := fun _ => rfl
   refine rF_fn rfl rfl Tryz.func45 rfl ?_
   have hT : True := trivial
   by_cases hlen : l.length = m.length
   ·repeat' first|simp (disch:=first|omega|assumption|decide) only[go_sem,hm,hz,ht,hr_,hA,hB]|(apply ifP_in<;>intro)
    refine rL_loop (σ := Nat) (fun i e H' => H' = H ∧ e 0 = a ∧ e 1 = b ∧ e 5 = .i i ∧ i ≤ l.length ∧ l.take i = m.take i) (fun i => l.length - i) 0 ?_ ?_
    ·refine ⟨rfl, ?_, ?_, ?_, by omega, by simp⟩
     all_goals first | (simp (disch := first | assumption | omega) only [go_sem, hA, hB]; done) | (simp (disch := first | assumption | omega) only [go_sem, hA, hB]; rfl)
    ·rintro i e H' ⟨rfl, g0, g1, g5, i1, i2⟩
     rw [hA] at g0
     rw [hB] at g1
     by_cases hi : i < l.length
     ·have him : i < m.length := by omega
      have hix := ix_at hi
      have hix' := ix_at him
      have hxi := hxi i hi
      have hxi' := hxi' i him
      have htm := take_more hi him i2
      have hna := ne_at hi him
      generalize l[i] = x at *
      generalize m[i] = y at *
      by_cases hxy : x = y
      ·have hF : (x ≠ y) = False := by simp [hxy]
       have hD : decide (x ≠ y) = false := by simp [hxy]
       repeat' first|simp (disch:=first|omega|assumption|decide) only[go_sem,hm,hz,ht,hr_,g0,g1,g5,hix,hix',hj,hj',plainD_map,partD_map,hxi,hxi',hF,hD,hA,hB]|(apply ifP_in<;>intro)
       exact ⟨i + 1, ⟨rfl, by omega, htm.2 hxy⟩, by omega⟩
      ·have hD : decide (x ≠ y) = true := by simp [hxy]
       rw [hna hxy]
       repeat' first|simp (disch:=first|omega|assumption|decide) only[go_sem,hm,hz,ht,hr_,g0,g1,g5,hix,hix',hj,hj',plainD_map,partD_map,hxi,hxi',hxy,hD]|(apply ifP_in<;>intro)
     ·obtain rfl : i = l.length := by omega
      rw [List.take_length, hlen, List.take_length] at i2
      rw [decide_eq_true i2]
      repeat' first|simp (disch:=first|omega|assumption|decide) only[go_sem,hm,hz,ht,hr_,g0,g1,g5]|(apply ifP_in<;>intro)
   ·have hne : decide (l = m) = false := decide_eq_false fun e => hlen (by rw [e])
    rw [hne]
    repeat' first|simp (disch:=first|omega|assumption|decide) only[go_sem,hm,hz,ht,hr_,hA,hB]|(apply ifP_in<;>intro)
  ·have hxi' : ∀ i, (h : i < m.length) → xs'[off' + i]? = some m[i] := fun i hi => reads_at hx' hi
   have hm : ∀ d, cfg.muF 45 d = (false) := fun _ => rfl
   have hz : ∀ d, cfg.fzF 45 d = (false) := fun _ => rfl
   have ht : ∀ d, cfg.tkF 45 d = (false) := fun _ => rfl
   have hr_ : ∀ g, cfg.raw g = (g == 253 || g == 225 || g == 53) := fun _ => rfl
   refine rF_fn rfl rfl Tryz.func45 rfl ?_
   have hT : True := trivial
   by_cases hlen : l.length = m.length
   ·repeat' first|simp (disch:=first|omega|assumption|decide) only[go_sem,hm,hz,ht,hr_,hA,hB]|(apply ifP_in<;>intro)
    refine rL_loop (σ := Nat) (fun i e H' => H' = H ∧ e 0 = a ∧ e 1 = b ∧ e 5 = .i i ∧ i ≤ l.length ∧ l.take i = m.take i) (fun i => l.length - i) 0 ?_ ?_
    ·refine ⟨rfl, ?_, ?_, ?_, by omega, by simp⟩
     all_goals first | (simp (disch := first | assumption | omega) only [go_sem, hA, hB]; done) | (simp (disch := first | assumption | omega) only [go_sem, hA, hB]; rfl)
    ·rintro i e H' ⟨rfl, g0, g1, g5, i1, i2⟩
     rw [hA] at g0
     rw [hB] at g1
     by_cases hi : i < l.length
     ·have him : i < m.length := by omega
      have hix := ix_at hi
      have hix' := ix_at him
      have hxi := hxi i hi
      have hxi' := hxi' i him
      have htm := take_more hi him i2
      have hna := ne_at hi him
      generalize l[i] = x at *
      generalize m[i] = y at *
      by_cases hxy : x = y
      ·have hF : (x ≠ y) = False := by simp [hxy]
       have hD : decide (x ≠ y) = false := by simp [hxy]
       repeat' first|simp (disch:=first|omega|assumption|decide) only[go_sem,hm,hz,ht,hr_,g0,g1,g5,hix,hix',hj,hj',plainD_map,partD_map,hxi,hxi',hF,hD,hA,hB]|(apply ifP_in<;>intro)
       exact ⟨i + 1, ⟨rfl, by omega, htm.2 hxy⟩, by omega⟩
      ·have hD : decide (x ≠ y) = true := by simp [hxy]
       rw [hna hxy]
       repeat' first|simp (disch:=first|omega|assumption|decide) only[go_sem,hm,hz,ht,hr_,g0,g1,g5,hix,hix',hj,hj',plainD_map,partD_map,hxi,hxi',hxy,hD]|(apply ifP_in<;>intro)
     ·obtain rfl : i = l.length := by omega
      rw [List.take_length, hlen, List.take_length] at i2
      rw [decide_eq_true i2]
      repeat' first|simp (disch:=first|omega|assumption|decide) only[go_sem,hm,hz,ht,hr_,g0,g1,g5]|(apply ifP_in<;>intro)
   ·have hne : decide (l = m) = false := decide_eq_false fun e => hlen (by rw [e])
    rw [hne]
    repeat' first|simp (disch:=first|omega|assumption|decide) only[go_sem,hm,hz,ht,hr_,hA,hB]|(apply ifP_in<;>intro)
theorem equal_w (l m : List (List UInt8)) (hl : l.length ≤ 140737488355328) (hm_ : m.length ≤ 140737488355328) {a b : AV} (ha : ReadsS H a l) (hb : ReadsS H b m) : WF Tryz.prog cfg 55 [a, b] H (fun r H' => r = .b (decide (l = m)) ∧ H' = H) := by
 rcases ha with hA | ⟨j, off, xs, hA, hj, hx, h0⟩
 ·have hj : True := trivial
  have hxi : ∀ i, i < l.length → True := fun _ _ => trivial
  rcases hb with hB | ⟨j', off', xs', hB, hj', hx', h0'⟩
  ·have hj' : True := trivial
   have hxi' : ∀ i, i < m.length → True := fun _ _ => trivial
   have hm : ∀ d, cfg.muF 55 d = (false) := fun _ => rfl
   have hz : ∀ d, cfg.fzF 55 d = (false) := fun _ => rfl
   have ht : ∀ d, cfg.tkF 55 d = (false) := fun _ => rfl
   have hr_ : ∀ g, cfg.raw g = (g == 253 || g == 225 || g == 53) := fun _ => rfl
   refine rF_fn rfl rfl Tryz.func55 rfl ?_
   have hT : True := trivial
   by_cases hlen : l.length = m.length
   ·repeat' first|simp (disch:=first|omega|assumption|decide) only[go_sem,hm,hz,ht,hr_,hA,hB]|(apply ifP_in<;>intro)
    refine rL_loop (σ := Nat) (fun i e H' => H' = H ∧ e 0 = a ∧ e 1 = b ∧ e 12 = .i l.length ∧ e 13 = .i i ∧ i ≤ l.length ∧ l.take i = m.take i) (fun i => l.length - i) 0 ?_ ?_
    ·refine ⟨rfl, ?_, ?_, ?_, ?_, by omega, by simp⟩
     all_goals first | (simp (disch := first | assumption | omega) only [go_sem, hA, hB]; done) | (simp (disch := first | assumption | omega) only [go_sem, hA, hB]; rfl)
    ·rintro i e H' ⟨rfl, g0, g1, g12, g13, i1, i2⟩
     rw [hA] at g0
     rw [hB] at g1
     by_cases hi : i < l.length
     ·have him : i < m.length := by omega
      have hix := ix_at hi
      have hix' := ix_at him
      have hxi := hxi i hi
      have hxi' := hxi' i him
      have htm := take_more hi him i2
      have hna := ne_at hi him
      generalize l[i] = x at *
      generalize m[i] = y at *
      by_cases hxy : x = y
      ·have hF : (x ≠ y) = False := by simp [hxy]
       have hD : decide (x ≠ y) = false := by simp [hxy]
       repeat' first|simp (disch:=first|omega|assumption|decide) only[go_sem,hm,hz,ht,hr_,g0,g1,g12,g13,hix,hix',hj,hj',plainD_map,partD_map,hxi,hxi',hF,hD,hA,hB]|(apply ifP_in<;>intro)
       exact ⟨i + 1, ⟨rfl, by omega, htm.2 hxy⟩, by omega⟩
      ·have hD : decide (x ≠ y) = true := by simp [hxy]
       rw [hna hxy]
       repeat' first|simp (disch:=first|omega|assumption|decide) only[go_sem,hm,hz,ht,hr_,g0,g1,g12,g13,hix,hix',hj,hj',plainD_map,partD_map,hxi,hxi',hxy,hD]|(apply ifP_in<;>intro)
     ·obtain rfl : i = l.length := by omega
      rw [List.take_length, hlen, List.take_length] at i2
      rw [decide_eq_true i2]
      repeat' first|simp (disch:=first|omega|assumption|decide) only[go_sem,hm,hz,ht,hr_,g0,g1,g12,g13]|(apply ifP_in<;>intro)
   ·have hne : decide (l = m) = false := decide_eq_false fun e => hlen (by rw [e])
    rw [hne]
    repeat' first|simp (disch:=first|omega|assumption|decide) only[go_sem,hm,hz,ht,hr_,hA,hB]|(apply ifP_in<;>intro)
  ·have hxi' : ∀ i, (h : i < m.length) → xs'[off' + i]? = some m[i] := fun i hi => reads_at hx' hi
   have hm : ∀ d, cfg.muF 55 d = (false) := fun _ => rfl
   have hz : ∀ d, cfg.fzF 55 d = (false) := fun _ => rfl
   have ht : ∀ d, cfg.tkF 55 d = (false) := fun _ => rfl
   have hr_ : ∀ g, cfg.raw g = (g == 253 || g == 225 || g == 53) := fun _ => rfl
   refine rF_fn rfl rfl Tryz.func55 rfl ?_
   have hT : True := trivial
   by_cases hlen : l.length = m.length
   ·repeat' first|simp (disch:=first|omega|assumption|decide) only[go_sem,hm,hz,ht,hr_,hA,hB]|(apply ifP_in<;>intro)
    refine rL_loop (σ := Nat) (fun i e H' => H' = H ∧ e 0 = a ∧ e 1 = b ∧ e 12 = .i l.length ∧ e 13 = .i i ∧ i ≤ l.length ∧ l.take i = m.take i) (fun i => l.length - i) 0 ?_ ?_
    ·refine ⟨rfl, ?_, ?_, ?_, ?_, by omega, by simp⟩
     all_goals first | (simp (disch := first | assumption | omega) only [go_sem, hA, hB]; done) | (simp (disch := first | assumption | omega) only [go_sem, hA, hB]; rfl)
    ·rintro i e H' ⟨rfl, g0, g1, g12, g13, i1, i2⟩
     rw [hA] at g0
     rw [hB] at g1
     by_cases hi : i < l.length
     ·have him : i < m.length := by omega
      have hix := ix_at hi
      have hix' := ix_at him
      have hxi := hxi i hi
      have hxi' := hxi' i him
      have htm := take_more hi him i2
      have hna := ne_at hi him
      generalize l[i] = x at *
      generalize m[i] = y at *
      by_cases hxy : x = y
      ·have hF : (x ≠ y) = False := by simp [hxy]
       have hD : decide (x ≠ y) = false := by simp [hxy]
       repeat' first|simp (disch:=first|omega|assumption|decide) only[go_sem,hm,hz,ht,hr_,g0,g1,g12,g13,hix,hix',hj,hj',plainD_map,partD_map,hxi,hxi',hF,hD,hA,hB]|(apply ifP_in<;>intro)
       exact ⟨i + 1, ⟨rfl, by omega, htm.2 hxy⟩, by omega⟩
      ·have hD : decide (x ≠ y) = true := by simp [hxy]
       rw [hna hxy]
       repeat' first|simp (disch:=first|omega|assumption|decide) only[go_sem,hm,hz,ht,hr_,g0,g1,g12,g13,hix,hix',hj,hj',plainD_map,partD_map,hxi,hxi',hxy,hD]|(apply ifP_in<;>intro)
     ·obtain rfl : i = l.length := by omega
      rw [List.take_length, hlen, List.take_length] at i2
      rw [decide_eq_true i2]
      repeat' first|simp (disch:=first|omega|assumption|decide) only[go_sem,hm,hz,ht,hr_,g0,g1,g12,g13]|(apply ifP_in<;>intro)
   ·have hne : decide (l = m) = false := decide_eq_false fun e => hlen (by rw [e])
    rw [hne]
    repeat' first|simp (disch:=first|omega|assumption|decide) only[go_sem,hm,hz,ht,hr_,hA,hB]|(apply ifP_in<;>intro)
 ·have hxi : ∀ i, (h : i < l.length) → xs[off + i]? = some l[i] := fun i hi => reads_at hx hi
  rcases hb with hB | ⟨j', off', xs', hB, hj', hx', h0'⟩
  ·have hj' : True := trivial
   have hxi' : ∀ i, i < m.length → True := fun _ _ => trivial
   have hm : ∀ d, cfg.muF 55 d = (false) := fun _ => rfl
   have hz : ∀ d, cfg.fzF 55 d = (false) := fun _ => rfl
   have ht : ∀ d, cfg.tkF 55 d = (false) := fun _ => rfl
   have hr_ : ∀ g, cfg.raw g = (g == 253 || g == 225 || g == 53) := fun _ => rfl
   refine rF_fn rfl rfl Tryz.func55 rfl ?_
   have hT : True := trivial
   by_cases hlen : l.length = m.length
   ·repeat' first|simp (disch:=first|omega|assumption|decide) only[go_sem,hm,hz,ht,hr_,hA,hB]|(apply ifP_in<;>intro)
    refine rL_loop (σ := Nat) (fun i e H' => H' = H ∧ e 0 = a ∧ e 1 = b ∧ e 12 = .i l.length ∧ e 13 = .i i ∧ i ≤ l.length ∧ l.take i = m.take i) (fun i => l.length - i) 0 ?_ ?_
    ·refine ⟨rfl, ?_, ?_, ?_, ?_, by omega, by simp⟩
     all_goals first | (simp (disch := first | assumption | omega) only [go_sem, hA, hB]; done) | (simp (disch := first | assumption | omega) only [go_sem, hA, hB]; rfl)
    ·rintro i e H' ⟨rfl, g0, g1, g12, g13, i1, i2⟩
     rw [hA] at g0
     rw [hB] at g1
     by_cases hi : i < l.length
     ·have him : i < m.length := by omega
      have hix := ix_at hi
      have hix' := ix_at him
      have hxi := hxi i hi
      have hxi' := hxi' i him
      have htm := take_more hi him i2
      have hna := ne_at hi him
      generalize l[i] = x at *
      generalize m[i] = y at *
      by_cases hxy : x = y
      ·have hF : (x ≠ y) = False := by simp [hxy]
       have hD : decide (x ≠ y) = false := by simp [hxy]
       repeat' first|simp (disch:=first|omega|assumption|decide) only[go_sem,hm,hz,ht,hr_,g0,g1,g12,g13,hix,hix',hj,hj',plainD_map,partD_map,hxi,hxi',hF,hD,hA,hB]|(apply ifP_in<;>intro)
       exact ⟨i + 1, ⟨rfl, by omega, htm.2 hxy⟩, by omega⟩
      ·have hD : decide (x ≠ y) = true := by simp [hxy]
       rw [hna hxy]
       repeat' first|simp (disch:=first|omega|assumption|decide) only[go_sem,hm,hz,ht,hr_,g0,g1,g12,g13,hix,hix',hj,hj',plainD_map,partD_map,hxi,hxi',hxy,hD]|(apply ifP_in<;>intro)
     ·obtain rfl : i = l.length := by omega
      rw [List.take_length, hlen, List.take_length] at i2
      rw [decide_eq_true i2]
      repeat' first|simp (disch:=first|omega|assumption|decide) only[go_sem,hm,hz,ht,hr_,g0,g1,g12,g13]|(apply ifP_in<;>intro)
   ·have hne : decide (l = m) = false := decide_eq_false fun e => hlen (by rw [e])
    rw [hne]
    repeat' first|simp (disch:=first|omega|assumption|decide) only[go_sem,hm,hz,ht,hr_,hA,hB]|(apply ifP_in<;>intro)
  ·have hxi' : ∀ i, (h : i < m.length) → xs'[off' + i]? = some m[i] := fun i hi => reads_at hx' hi
   have hm : ∀ d, cfg.muF 55 d = (false) := fun _ => rfl
   have hz : ∀ d, cfg.fzF 55 d = (false) := fun _ => rfl
   have ht : ∀ d, cfg.tkF 55 d = (false) := fun _ => rfl
   have hr_ : ∀ g, cfg.raw g = (g == 253 || g == 225 || g == 53) := fun _ => rfl
   refine rF_fn rfl rfl Tryz.func55 rfl ?_
   have hT : True := trivial
   by_cases hlen : l.length = m.length
   ·repeat' first|simp (disch:=first|omega|assumption|decide) only[go_sem,hm,hz,ht,hr_,hA,hB]|(apply ifP_in<;>intro)
    refine rL_loop (σ := Nat) (fun i e H' => H' = H ∧ e 0 = a ∧ e 1 = b ∧ e 12 = .i l.length ∧ e 13 = .i i ∧ i ≤ l.length ∧ l.take i = m.take i) (fun i => l.length - i) 0 ?_ ?_
    ·refine ⟨rfl, ?_, ?_, ?_, ?_, by omega, by simp⟩
     all_goals first | (simp (disch := first | assumption | omega) only [go_sem, hA, hB]; done) | (simp (disch := first | assumption | omega) only [go_sem, hA, hB]; rfl)
    ·rintro i e H' ⟨rfl, g0, g1, g12, g13, i1, i2⟩
     rw [hA] at g0
     rw [hB] at g1
     by_cases hi : i < l.length
     ·have him : i < m.length := by omega
      have hix := ix_at hi
      have hix' := ix_at him
      have hxi := hxi i hi
      have hxi' := hxi' i him
      have htm := take_more hi him i2
      have hna := ne_at hi him
      generalize l[i] = x at *
      generalize m[i] = y at *
      by_cases hxy : x = y
      ·have hF : (x ≠ y) = False := by simp [hxy]
       have hD : decide (x ≠ y) = false := by simp [hxy]
       repeat' first|simp (disch:=first|omega|assumption|decide) only[go_sem,hm,hz,ht,hr_,g0,g1,g12,g13,hix,hix',hj,hj',plainD_map,partD_map,hxi,hxi',hF,hD,hA,hB]|(apply ifP_in<;>intro)
       exact ⟨i + 1, ⟨rfl, by omega, htm.2 hxy⟩, by omega⟩
      ·have hD : decide (x ≠ y) = true := by simp [hxy]
       rw [hna hxy]
       repeat' first|simp (disch:=first|omega|assumption|decide) only[go_sem,hm,hz,ht,hr_,g0,g1,g12,g13,hix,hix',hj,hj',plainD_map,partD_map,hxi,hxi',hxy,hD]|(apply ifP_in<;>intro)
     ·obtain rfl : i = l.length := by omega
      rw [List.take_length, hlen, List.take_length] at i2
      rw [decide_eq_true i2]
      repeat' first|simp (disch:=first|omega|assumption|decide) only[go_sem,hm,hz,ht,hr_,g0,g1,g12,g13]|(apply ifP_in<;>intro)
   ·have hne : decide (l = m) = false := decide_eq_false fun e => hlen (by rw [e])
    rw [hne]
    repeat' first|simp (disch:=first|omega|assumption|decide) only[go_sem,hm,hz,ht,hr_,hA,hB]|(apply ifP_in<;>intro)
end Hs
end Go.Proofs
/- Walks: addresses as texts. -/
set_option linter.unusedVariables false
set_option linter.unusedSimpArgs false
namespace Go.Proofs
open Go.Lv
namespace Hs
open Pu Ut Utf In
variable {H : Heap}
def HTTP : List UInt8 := [104, 116, 116, 112]
def HTTPS : List UInt8 := [104, 116, 116, 112, 115]
def WS_ : List UInt8 := [119, 115]
def WSS : List UInt8 := [119, 115, 115]
def FTP : List UInt8 := [102, 116, 112]
def spec (s : List UInt8) : Int := if s = HTTP ∨ s = WS_ then 80 else if s = HTTPS ∨ s = WSS then 443 else if s = FTP then 21 else 0
theorem special_w (s : List UInt8) : WF Tryz.prog cfg 23 [.str s] H (fun r H' => r = .i (spec s) ∧ H' = H) := by
 have hm : ∀ d, cfg.muF 23 d = (false) := fun _ => rfl
 have hz : ∀ d, cfg.fzF 23 d = (false) := fun _ => rfl
 have ht : ∀ d, cfg.tkF 23 d = (false) := fun _ => rfl
 have hr_ : ∀ g, cfg.raw g = (g == 253 || g == 225 || g == 53) := fun _ => rfl
 refine rF_fn rfl rfl Tryz.func23 rfl ?_
 have d1 : [104, 116, 116, 112] = HTTP := rfl
 have d2 : [104, 116, 116, 112, 115] = HTTPS := rfl
 have d3 : [119, 115] = WS_ := rfl
 have d4 : [119, 115, 115] = WSS := rfl
 have d5 : [102, 116, 112] = FTP := rfl
 unfold spec
 by_cases c1 : s = HTTP
 ·have e1 : decide (s = HTTP) = true := decide_eq_true c1
  rw [if_pos (.inl c1)]
  repeat' first|simp (disch:=first|omega|assumption|decide) only[go_sem,hm,hz,ht,hr_,d1,d2,d3,d4,d5,e1]|(apply ifP_in<;>intro)
 have e1 : decide (s = HTTP) = false := decide_eq_false c1
 by_cases c2 : s = WS_
 ·have e2 : decide (s = WS_) = true := decide_eq_true c2
  rw [if_pos (.inr c2)]
  repeat' first|simp (disch:=first|omega|assumption|decide) only[go_sem,hm,hz,ht,hr_,d1,d2,d3,d4,d5,e1,e2]|(apply ifP_in<;>intro)
 have e2 : decide (s = WS_) = false := decide_eq_false c2
 rw [if_neg (fun h => h.elim c1 c2)]
 by_cases c3 : s = HTTPS
 ·have e3 : decide (s = HTTPS) = true := decide_eq_true c3
  rw [if_pos (.inl c3)]
  repeat' first|simp (disch:=first|omega|assumption|decide) only[go_sem,hm,hz,ht,hr_,d1,d2,d3,d4,d5,e1,e2,e3]|(apply ifP_in<;>intro)
 have e3 : decide (s = HTTPS) = false := decide_eq_false c3
 by_cases c4 : s = WSS
 ·have e4 : decide (s = WSS) = true := decide_eq_true c4
  rw [if_pos (.inr c4)]
  repeat' first|simp (disch:=first|omega|assumption|decide) only[go_sem,hm,hz,ht,hr_,d1,d2,d3,d4,d5,e1,e2,e3,e4]|(apply ifP_in<;>intro)
 have e4 : decide (s = WSS) = false := decide_eq_false c4
 rw [if_neg (fun h => h.elim c3 c4)]
 by_cases c5 : s = FTP
 ·have e5 : decide (s = FTP) = true := decide_eq_true c5
  rw [if_pos c5]
  repeat' first|simp (disch:=first|omega|assumption|decide) only[go_sem,hm,hz,ht,hr_,d1,d2,d3,d4,d5,e1,e2,e3,e4,e5]|(apply ifP_in<;>intro)
 have e5 : decide (s = FTP) = false := decide_eq_false c5
 rw [if_neg c5]
 repeat' first|simp (disch:=first|omega|assumption|decide) only[go_sem,hm,hz,ht,hr_,d1,d2,d3,d4,d5,e1,e2,e3,e4,e5]|(apply ifP_in<;>intro)
theorem special_r (s : List UInt8) : WF Tryz.prog cfg 30 [.str s] H (fun r H' => r = .i (spec s) ∧ H' = H) := by
 have hm : ∀ d, cfg.muF 30 d = (false) := fun _ => rfl
 have hz : ∀ d, cfg.fzF 30 d = (false) := fun _ => rfl
 have ht : ∀ d, cfg.tkF 30 d = (false) := fun _ => rfl
 have hr_ : ∀ g, cfg.raw g = (g == 253 || g == 225 || g == 53) := fun _ => rfl
 refine rF_fn rfl rfl Tryz.func30 rfl ?_
 have d1 : [104, 116, 116, 112] = HTTP := rfl
 have d2 : [104, 116, 116, 112, 115] = HTTPS := rfl
 have d3 : [119, 115] = WS_ := rfl
 have d4 : [119, 115, 115] = WSS := rfl
 have d5 : [102, 116, 112] = FTP := rfl
 unfold spec
 by_cases c1 : s = HTTP
 ·have e1 : decide (s = HTTP) = true := decide_eq_true c1
  rw [if_pos (.inl c1)]
  repeat' first|simp (disch:=first|omega|assumption|decide) only[go_sem,hm,hz,ht,hr_,d1,d2,d3,d4,d5,e1]|(apply ifP_in<;>intro)
 have e1 : decide (s = HTTP) = false := decide_eq_false c1
 by_cases c2 : s = WS_
 ·have e2 : decide (s = WS_) = true := decide_eq_true c2
  rw [if_pos (.inr c2)]
  repeat' first|simp (disch:=first|omega|assumption|decide) only[go_sem,hm,hz,ht,hr_,d1,d2,d3,d4,d5,e1,e2]|(apply ifP_in<;>intro)
 have e2 : decide (s = WS_) = false := decide_eq_false c2
 rw [if_neg (fun h => h.elim c1 c2)]
 by_cases c3 : s = HTTPS
 ·have e3 : decide (s = HTTPS) = true := decide_eq_true c3
  rw [if_pos (.inl c3)]
  repeat' first|simp (disch:=first|omega|assumption|decide) only[go_sem,hm,hz,ht,hr_,d1,d2,d3,d4,d5,e1,e2,e3]|(apply ifP_in<;>intro)
 have e3 : decide (s = HTTPS) = false := decide_eq_false c3
 by_cases c4 : s = WSS
 ·have e4 : decide (s = WSS) = true := decide_eq_true c4
  rw [if_pos (.inr c4)]
  repeat' first|simp (disch:=first|omega|assumption|decide) only[go_sem,hm,hz,ht,hr_,d1,d2,d3,d4,d5,e1,e2,e3,e4]|(apply ifP_in<;>intro)
 have e4 : decide (s = WSS) = false := decide_eq_false c4
 rw [if_neg (fun h => h.elim c3 c4)]
 by_cases c5 : s = FTP
 ·have e5 : decide (s = FTP) = true := decide_eq_true c5
  rw [if_pos c5]
  repeat' first|simp (disch:=first|omega|assumption|decide) only[go_sem,hm,hz,ht,hr_,d1,d2,d3,d4,d5,e1,e2,e3,e4,e5]|(apply ifP_in<;>intro)
 have e5 : decide (s = FTP) = false := decide_eq_false c5
 rw [if_neg c5]
 repeat' first|simp (disch:=first|omega|assumption|decide) only[go_sem,hm,hz,ht,hr_,d1,d2,d3,d4,d5,e1,e2,e3,e4,e5]|(apply ifP_in<;>intro)
theorem special_e (s : List UInt8) {Q : K (AV → Heap → Prop)} : @rF Tryz.prog cfg 23 [.str s] H Q = Q.v (.i (spec s)) H := rF_eq (special_w s)
theorem special_re (s : List UInt8) {Q : K (AV → Heap → Prop)} : @rF Tryz.prog cfg 30 [.str s] H Q = Q.v (.i (spec s)) H := rF_eq (special_r s)
section
variable (u : UrlV) (p : AV)
theorem u_k0 {s : Option Nat} : partD (some false) s (ucells u p) 0 = some (.str u.scheme) := rfl
theorem u_k1 {s : Option Nat} : partD (some false) s (ucells u p) 1 = some (.str u.user) := rfl
theorem u_k2 {s : Option Nat} : partD (some false) s (ucells u p) 2 = some (.str u.pass) := rfl
theorem u_k3 {s : Option Nat} : partD (some false) s (ucells u p) 3 = some (.b u.has) := rfl
theorem u_k4 (h8 : u.host.l.length = 8) : partD (some true) (some 11) (ucells u p) 4 = some (.agg u.host.cells) := by
 unfold partD
 simp only
 rw [if_pos (by rw [u_len u p h8]; omega), (u_get u p h8).2.2.2.2.2.2.2.2]
theorem u_k5 {s : Option Nat} : partD (some false) s (ucells u p) 5 = some (.str u.host.n) := rfl
theorem u_k15 (h8 : u.host.l.length = 8) {s : Option Nat} : partD (some false) s (ucells u p) 15 = some (.i u.port) := (u_get u p h8).1
theorem u_k16 (h8 : u.host.l.length = 8) {s : Option Nat} : partD (some false) s (ucells u p) 16 = some (.b u.dark) := (u_get u p h8).2.1
theorem u_k17 (h8 : u.host.l.length = 8) {s : Option Nat} : partD (some false) s (ucells u p) 17 = some (.str u.text) := (u_get u p h8).2.2.1
theorem u_k18 (h8 : u.host.l.length = 8) {s : Option Nat} : partD (some false) s (ucells u p) 18 = some p := (u_get u p h8).2.2.2.1
theorem u_k19 (h8 : u.host.l.length = 8) {s : Option Nat} : partD (some false) s (ucells u p) 19 = some (.b u.hasQ) := (u_get u p h8).2.2.2.2.1
theorem u_k20 (h8 : u.host.l.length = 8) {s : Option Nat} : partD (some false) s (ucells u p) 20 = some (.str u.q) := (u_get u p h8).2.2.2.2.2.1
theorem u_k21 (h8 : u.host.l.length = 8) {s : Option Nat} : partD (some false) s (ucells u p) 21 = some (.b u.hasF) := (u_get u p h8).2.2.2.2.2.2.1
theorem u_k22 (h8 : u.host.l.length = 8) {s : Option Nat} : partD (some false) s (ucells u p) 22 = some (.str u.f) := (u_get u p h8).2.2.2.2.2.2.2.1
theorem u_pl (hp : p.one = true) {x : Option AV} : plainD (ucells u p) x = x := plainD_of (plainRow_one (u_one u p hp))
theorem u_take (h8 : u.host.l.length = 8) : (ucells u p).take 23 = ucells u p := List.take_of_length_le (by rw [u_len u p h8]; omega)
end
def fewN (n : Int) (l : List (List UInt8)) : Int := l.foldl (fun n x => min (n + min (x.length : Int) 20000) 80000) n
theorem fewN_snoc (n : Int) (l : List (List UInt8)) (x : List UInt8) : fewN n (l ++ [x]) = min (fewN n l + min (x.length : Int) 20000) 80000 := by
 unfold fewN; rw [List.foldl_append]; rfl
theorem fewN_big : ∀ (l : List (List UInt8)) (n : Int), 20000 < n → 20000 < fewN n l := by
 intro l
 induction l with
 | nil => intro n h; exact h
 | cons x l ih =>
  intro n h
  show 20000 < fewN (min (n + min (x.length : Int) 20000) 80000) l
  exact ih _ (by omega)
def capped (l : List (List UInt8)) : Nat := (l.map fun x => min x.length 20000).sum
theorem fewN_cap : ∀ (l : List (List UInt8)) (n : Int), 0 ≤ n → fewN n l ≤ 20000 → n + (capped l : Nat) ≤ 20000 := by
 intro l
 induction l with
 | nil => intro n h0 h; simpa [fewN, capped] using h
 | cons x l ih =>
  intro n h0 h
  have h : fewN (min (n + min (x.length : Int) 20000) 80000) l ≤ 20000 := h
  have hc : capped (x :: l) = min x.length 20000 + capped l := rfl
  rw [hc]
  by_cases hb : 20000 < min (n + min (x.length : Int) 20000) 80000
  ·have := fewN_big l _ hb; omega
  ·have := ih _ (by omega) h
   omega
theorem capped_zero : ∀ (l : List (List UInt8)), capped l = 0 → (l.map List.length).sum = 0 := by
 intro l
 induction l with
 | nil => intro _; rfl
 | cons x l ih =>
  intro h
  have hc : capped (x :: l) = min x.length 20000 + capped l := rfl
  rw [hc] at h
  rw [List.map_cons, List.sum_cons, ih (by omega)]
  omega
theorem capped_sum : ∀ (l : List (List UInt8)) (k : Nat), (∀ x ∈ l, x.length ≤ 140737488351232) → k + capped l ≤ 20000 → k + (l.map List.length).sum ≤ 140737488351232 := by
 intro l
 induction l with
 | nil => intro k _ h; simp [capped] at h ⊢; omega
 | cons x l ih =>
  intro k hx h
  have hc : capped (x :: l) = min x.length 20000 + capped l := rfl
  rw [hc] at h
  rw [List.map_cons, List.sum_cons]
  have h1 := hx x (by simp)
  by_cases hb : x.length ≤ 20000
  ·have := ih (k + x.length) (fun y hy => hx y (by simp [hy])) (by omega)
   omega
  ·rw [capped_zero l (by omega)]
   omega
def few0 (u : UrlV) : Int := u.scheme.length + u.user.length + u.pass.length + u.host.n.length + u.text.length + u.q.length + u.f.length
def fewB (u : UrlV) : Bool := decide (u.path.length ≤ 300) && decide (fewN (few0 u) (u.path.take 300) ≤ 20000)
def UrlV.small (u : UrlV) : Prop := u.scheme.length + u.user.length + u.pass.length + u.host.n.length + u.text.length + u.q.length + u.f.length + (u.path.map List.length).sum ≤ 140737488351232 ∧ u.path.length ≤ 300 ∧ few0 u ≤ 20000
theorem fewB_small {u : UrlV} (hu : u.fine) (h : fewB u = true) : u.small := by
 unfold fewB at h
 rw [Bool.and_eq_true] at h
 have h1 := of_decide_eq_true h.1
 have h2 := of_decide_eq_true h.2
 rw [List.take_of_length_le h1] at h2
 have h3 := fewN_cap u.path (few0 u) (by unfold few0; omega) h2
 obtain ⟨k, hk⟩ : ∃ k : Nat, few0 u = k := ⟨(few0 u).toNat, by unfold few0; omega⟩
 rw [hk] at h3
 have h4 := capped_sum u.path k hu.2.2.2.2.2.2.2.2.1 (by omega)
 refine ⟨?_, h1, by omega⟩
 unfold few0 at hk
 omega
theorem fewN_nn : ∀ (l : List (List UInt8)) (n : Int), 0 ≤ n → 0 ≤ fewN n l := by
 intro l
 induction l with
 | nil => intro n h; exact h
 | cons x l ih => intro n h; exact ih (min (n + min (x.length : Int) 20000) 80000) (by omega)
theorem fewN_le (l : List (List UInt8)) (n : Int) (h : n ≤ 985162418487296) : fewN n l ≤ 985162418487296 := by
 induction l generalizing n with
 | nil => exact h
 | cons x l ih => exact ih (min (n + min (x.length : Int) 20000) 80000) (by omega)
theorem few_w9 (u : UrlV) (hu : u.fine) : WF Tryz.prog cfg 17 [.agg u.cells] H (fun r H' => r = .b (fewB u) ∧ H <+: H') := by
 obtain ⟨f1, f2, f3, f4, f5, f6, f7, f8, f9, ⟨h8, _⟩, _⟩ := hu
 have hm : ∀ d, cfg.muF 17 d = (false) := fun _ => rfl
 have hz : ∀ d, cfg.fzF 17 d = (false) := fun _ => rfl
 have ht : ∀ d, cfg.tkF 17 d = (false) := fun _ => rfl
 have hr_ : ∀ g, cfg.raw g = (g == 253 || g == 225 || g == 53) := fun _ => rfl
 refine rF_fn rfl rfl Tryz.func17 rfl ?_
 unfold UrlV.cells
 have hone : (pathC u).one = true := rfl
 have ho := u_one u (pathC u) hone
 have hn := u_len u (pathC u) h8
 have hpl := fun {x : Option AV} => u_pl u (pathC u) hone (x := x)
 have k0 := fun {s : Option Nat} => u_k0 u (pathC u) (s := s)
 have k1 := fun {s : Option Nat} => u_k1 u (pathC u) (s := s)
 have k2 := fun {s : Option Nat} => u_k2 u (pathC u) (s := s)
 have k3 := fun {s : Option Nat} => u_k3 u (pathC u) (s := s)
 have k4 := u_k4 u (pathC u) h8
 have k5 := fun {s : Option Nat} => u_k5 u (pathC u) (s := s)
 have k15 := fun {s : Option Nat} => u_k15 u (pathC u) h8 (s := s)
 have k16 := fun {s : Option Nat} => u_k16 u (pathC u) h8 (s := s)
 have k17 := fun {s : Option Nat} => u_k17 u (pathC u) h8 (s := s)
 have k18 : ∀ {s : Option Nat}, partD (some false) s (ucells u (pathC u)) 18 = some (.sl (u.path.map AV.str)) := fun {s} => u_k18 u (pathC u) h8 (s := s)
 have k19 := fun {s : Option Nat} => u_k19 u (pathC u) h8 (s := s)
 have k20 := fun {s : Option Nat} => u_k20 u (pathC u) h8 (s := s)
 have k21 := fun {s : Option Nat} => u_k21 u (pathC u) h8 (s := s)
 have k22 := fun {s : Option Nat} => u_k22 u (pathC u) h8 (s := s)
 have htk := u_take u (pathC u) h8
 generalize ucells u (pathC u) = cs at *
 have hmin : ∀ {a b : Int}, minA (.i a) (.i b) = some (.i (min a b)) := fun {a b} => by
  unfold minA
  simp only
  congr 3
  split <;> omega
 have hf0 : few0 u = (u.scheme.length : Int) + u.user.length + u.pass.length + u.host.n.length + u.text.length + u.q.length + u.f.length := rfl
 have hfb : fewB u = (decide (u.path.length ≤ 300) && decide (fewN (few0 u) (u.path.take 300) ≤ 20000)) := rfl
 rw [hfb]
 have b0 : few0 u ≤ 985162418487296 := by unfold few0; omega
 have b1 : 0 ≤ few0 u := by unfold few0; omega
 repeat' first|simp (disch:=first|omega|assumption|decide) only[go_sem,hm,hz,ht,hr_,ho,hpl,k0,k1,k2,k5,k17,k20,k22,wdl,bind_some_,map_some_,oneD_fold]|(apply ifP_in<;>intro)
 rw [← hf0]
 generalize few0 u = n0 at *
 refine rL_loop (σ := Nat) (fun i e H' => H' = H ++ [cs] ∧ e 1 = .ptr H.length 0 ∧ e 3 = .i (fewN n0 (u.path.take i)) ∧ e 4 = .i i ∧ i ≤ u.path.length ∧ i ≤ 300) (fun i => u.path.length - i) 0 ?_ ?_
 ·refine ⟨rfl, ?_, ?_, ?_, by omega, by omega⟩
  all_goals first | (simp (disch := first | assumption | omega) only [go_sem]; done) | (simp (disch := first | assumption | omega) only [go_sem]; rfl)
 ·rintro i e H' ⟨rfl, g1, g3, g4, i1, i2⟩
  have q1 := fewN_le (u.path.take i) n0 b0
  have q2 := fewN_nn (u.path.take i) n0 b1
  by_cases hi : i < u.path.length
  ·by_cases hi3 : i < 300
   ·have hix := ix_at hi
    have hxl := f9 _ (List.getElem_mem hi)
    have hsn := fewN_snoc n0 (u.path.take i) u.path[i]
    rw [← List.take_succ_eq_append_getElem hi] at hsn
    generalize u.path[i] = x at *
    generalize fewN n0 (u.path.take i) = n at *
    repeat' first|simp (disch:=first|omega|assumption|decide) only[go_sem,hm,hz,ht,hr_,ho,hpl,k18,g1,g3,g4,hix,hmin,wdl,bind_some_,map_some_,oneD_fold]|(apply ifP_in<;>intro)
    exact ⟨i + 1, ⟨by rw [hsn], rfl, by omega, by omega⟩, by omega⟩
   ·obtain rfl : i = 300 := by omega
    have hD : decide (u.path.length ≤ 300) = false := decide_eq_false (by omega)
    rw [hD, Bool.false_and]
    generalize fewN n0 (u.path.take 300) = n at *
    repeat' first|simp (disch:=first|omega|assumption|decide) only[go_sem,hm,hz,ht,hr_,ho,hpl,k18,g1,g3,g4,hmin,wdl,bind_some_,map_some_,oneD_fold]|(apply ifP_in<;>intro)
    exact List.prefix_append _ _
  ·obtain rfl : i = u.path.length := by omega
   have hD : decide (u.path.length ≤ 300) = true := decide_eq_true (by omega)
   rw [hD, Bool.true_and]
   have ht3 : u.path.take 300 = u.path.take u.path.length := by rw [List.take_of_length_le (by omega), List.take_length]
   rw [ht3]
   generalize fewN n0 (u.path.take u.path.length) = n at *
   repeat' first|simp (disch:=first|omega|assumption|decide) only[go_sem,hm,hz,ht,hr_,ho,hpl,k18,g1,g3,g4,hmin,wdl,bind_some_,map_some_,oneD_fold]|(apply ifP_in<;>intro)
   exact List.prefix_append _ _
end Hs
end Go.Proofs
/- Walks: addresses as texts: who is asked, and the whole. -/
set_option linter.unusedVariables false
set_option linter.unusedSimpArgs false
namespace Go.Proofs
open Go.Lv
namespace Hs
open Pu Ut Utf In
variable {H : Heap}
def prH (h : HostV) : List UInt8 := pr h.k h.n h.v h.l
theorem prH_len {h : HostV} (h8 : h.l.length = 8) : (prH h).length ≤ h.n.length + 100 := by
 unfold prH pr
 have h1 := Ho.pr4_len h.v
 have h2 := Ho.pr6_len h.l
 split
 ·omega
 split
 ·omega
 split
 ·simp; omega
 ·simp
def cred (user pass : List UInt8) : List UInt8 := if user = [] ∧ pass = [] then [] else user ++ (if pass = [] then [] else [58] ++ pass) ++ [64]
def portT (p : Int) : List UInt8 := if p = -1 then [] else [58] ++ Lib.itoa p
def whoT (u : UrlV) : List UInt8 := [47, 47] ++ cred u.user u.pass ++ prH u.host ++ portT u.port
theorem print_wH (h : HostV) (hf : h.fine) : WF Tryz.prog cfg 24 [.agg h.cells] H (fun r H' => r = .str (prH h) ∧ H <+: H') := print_w h.k h.n h.v h.l hf.1 hf.2.1 hf.2.2.1 hf.2.2.2
theorem print_rH (h : HostV) (hf : h.fine) : WF Tryz.prog cfg 54 [.agg h.cells] H (fun r H' => r = .str (prH h) ∧ H <+: H') := print_r h.k h.n h.v h.l hf.1 hf.2.1 hf.2.2.1 hf.2.2.2
theorem who_w (u : UrlV) (hu : u.fine) (hs : u.small) : WF Tryz.prog cfg 49 [.agg u.cells] H (fun r H' => r = .str (whoT u) ∧ H <+: H') := by
 obtain ⟨f1, f2, f3, f4, f5, f6, f7, f8, f9, hfin, p0, p1⟩ := hu
 have h8 := hfin.1
 have hpw := fun {H : Heap} => print_wH (H := H) u.host hfin
 have hpn := prH_len h8
 have hil := itoa_len p0 p1
 have hit := fun {H : Heap} {Q : K (AV → Heap → Prop)} => itoas_e (H := H) p0 p1 (Q := Q)
 have hm : ∀ d, cfg.muF 49 d = (false) := fun _ => rfl
 have hz : ∀ d, cfg.fzF 49 d = (false) := fun _ => rfl
 have ht : ∀ d, cfg.tkF 49 d = (false) := fun _ => rfl
 have hr_ : ∀ g, cfg.raw g = (g == 253 || g == 225 || g == 53) := fun _ => rfl
 refine rF_fn rfl rfl Tryz.func49 rfl ?_
 unfold UrlV.cells
 have hone : (pathC u).one = true := rfl
 have ho := u_one u (pathC u) hone
 have hn := u_len u (pathC u) h8
 have hpl := fun {x : Option AV} => u_pl u (pathC u) hone (x := x)
 have k0 := fun {s : Option Nat} => u_k0 u (pathC u) (s := s)
 have k1 := fun {s : Option Nat} => u_k1 u (pathC u) (s := s)
 have k2 := fun {s : Option Nat} => u_k2 u (pathC u) (s := s)
 have k3 := fun {s : Option Nat} => u_k3 u (pathC u) (s := s)
 have k4 := u_k4 u (pathC u) h8
 have k5 := fun {s : Option Nat} => u_k5 u (pathC u) (s := s)
 have k15 := fun {s : Option Nat} => u_k15 u (pathC u) h8 (s := s)
 have k16 := fun {s : Option Nat} => u_k16 u (pathC u) h8 (s := s)
 have k17 := fun {s : Option Nat} => u_k17 u (pathC u) h8 (s := s)
 have k18 : ∀ {s : Option Nat}, partD (some false) s (ucells u (pathC u)) 18 = some (.sl (u.path.map AV.str)) := fun {s} => u_k18 u (pathC u) h8 (s := s)
 have k19 := fun {s : Option Nat} => u_k19 u (pathC u) h8 (s := s)
 have k20 := fun {s : Option Nat} => u_k20 u (pathC u) h8 (s := s)
 have k21 := fun {s : Option Nat} => u_k21 u (pathC u) h8 (s := s)
 have k22 := fun {s : Option Nat} => u_k22 u (pathC u) h8 (s := s)
 have htk := u_take u (pathC u) h8
 generalize ucells u (pathC u) = cs at *
 unfold whoT portT
 obtain ⟨hs1, hs2⟩ := hs
 generalize u.host.cells = hc at *
 generalize prH u.host = t at *
 generalize Lib.itoa u.port = it at *
 unfold cred
 by_cases c1 : u.user = []
 ·have c1D : decide (u.user ≠ []) = false := by simp [c1]
  have c1N : (u.user = []) = True := eq_true c1
  by_cases c2 : u.pass = []
  ·have c2D : decide (u.pass ≠ []) = false := by simp [c2]
   have c2N : (u.pass = []) = True := eq_true c2
   rw [if_pos ⟨c1, c2⟩]
   repeat' first|simp (disch := first | omega | assumption | decide | (simp only [List.length_append,List.length_cons,List.length_nil]; omega)) only [go_sem,hm,hz,ht,hr_,ho,hpl,k1,k2,k4,k15,c1D,c2D,hn,c1N,c2N,wdl,bind_some_,map_some_,oneD_fold]|(apply ifP_in<;>intro)
   refine rF_use hpw ?_
   rintro _ H2 ⟨rfl, T2, rfl⟩
   have ga : (H ++ [cs] ++ T2)[H.length]? = some cs := by simp
   by_cases c3 : u.port = -1
   ·have c3D : decide (u.port ≠ -1) = false := by simp [c3]
    have c3T : (u.port = -1) = True := eq_true c3
    rw [if_pos c3]
    repeat' first|simp (disch := first | omega | assumption | decide | (simp only [List.length_append,List.length_cons,List.length_nil]; omega)) only [go_sem,hm,hz,ht,hr_,ho,hpl,k1,k2,k4,k15,c1D,c2D,hn,ga,c3D,c3T,hit,wdl,bind_some_,map_some_,oneD_fold]|(apply ifP_in<;>intro)
    all_goals first | (refine ⟨?_, ?_⟩ <;> first | (simp; done) | (exact ⟨_, (List.append_assoc ..).symm⟩)) | (simp; done)
   ·have c3D : decide (u.port ≠ -1) = true := by simp [c3]
    have c3T : (u.port = -1) = False := eq_false c3
    rw [if_neg c3]
    repeat' first|simp (disch := first | omega | assumption | decide | (simp only [List.length_append,List.length_cons,List.length_nil]; omega)) only [go_sem,hm,hz,ht,hr_,ho,hpl,k1,k2,k4,k15,c1D,c2D,hn,ga,c3D,c3T,hit,wdl,bind_some_,map_some_,oneD_fold]|(apply ifP_in<;>intro)
    all_goals first | (refine ⟨?_, ?_⟩ <;> first | (simp; done) | (exact ⟨_, (List.append_assoc ..).symm⟩)) | (simp; done)
  ·have c2D : decide (u.pass ≠ []) = true := by simp [c2]
   have c2N : (u.pass = []) = False := eq_false c2
   rw [if_neg (fun h => c2 h.2), if_neg c2]
   repeat' first|simp (disch := first | omega | assumption | decide | (simp only [List.length_append,List.length_cons,List.length_nil]; omega)) only [go_sem,hm,hz,ht,hr_,ho,hpl,k1,k2,k4,k15,c1D,c2D,hn,c1N,c2N,wdl,bind_some_,map_some_,oneD_fold]|(apply ifP_in<;>intro)
   refine rF_use hpw ?_
   rintro _ H2 ⟨rfl, T2, rfl⟩
   have ga : (H ++ [cs] ++ T2)[H.length]? = some cs := by simp
   by_cases c3 : u.port = -1
   ·have c3D : decide (u.port ≠ -1) = false := by simp [c3]
    have c3T : (u.port = -1) = True := eq_true c3
    rw [if_pos c3]
    repeat' first|simp (disch := first | omega | assumption | decide | (simp only [List.length_append,List.length_cons,List.length_nil]; omega)) only [go_sem,hm,hz,ht,hr_,ho,hpl,k1,k2,k4,k15,c1D,c2D,hn,ga,c3D,c3T,hit,wdl,bind_some_,map_some_,oneD_fold]|(apply ifP_in<;>intro)
    all_goals first | (refine ⟨?_, ?_⟩ <;> first | (simp; done) | (exact ⟨_, (List.append_assoc ..).symm⟩)) | (simp; done)
   ·have c3D : decide (u.port ≠ -1) = true := by simp [c3]
    have c3T : (u.port = -1) = False := eq_false c3
    rw [if_neg c3]
    repeat' first|simp (disch := first | omega | assumption | decide | (simp only [List.length_append,List.length_cons,List.length_nil]; omega)) only [go_sem,hm,hz,ht,hr_,ho,hpl,k1,k2,k4,k15,c1D,c2D,hn,ga,c3D,c3T,hit,wdl,bind_some_,map_some_,oneD_fold]|(apply ifP_in<;>intro)
    all_goals first | (refine ⟨?_, ?_⟩ <;> first | (simp; done) | (exact ⟨_, (List.append_assoc ..).symm⟩)) | (simp; done)
 ·have c1D : decide (u.user ≠ []) = true := by simp [c1]
  have c1N : (u.user = []) = False := eq_false c1
  by_cases c2 : u.pass = []
  ·have c2D : decide (u.pass ≠ []) = false := by simp [c2]
   have c2N : (u.pass = []) = True := eq_true c2
   rw [if_neg (fun h => c1 h.1), if_pos c2]
   repeat' first|simp (disch := first | omega | assumption | decide | (simp only [List.length_append,List.length_cons,List.length_nil]; omega)) only [go_sem,hm,hz,ht,hr_,ho,hpl,k1,k2,k4,k15,c1D,c2D,hn,c1N,c2N,wdl,bind_some_,map_some_,oneD_fold]|(apply ifP_in<;>intro)
   refine rF_use hpw ?_
   rintro _ H2 ⟨rfl, T2, rfl⟩
   have ga : (H ++ [cs] ++ T2)[H.length]? = some cs := by simp
   by_cases c3 : u.port = -1
   ·have c3D : decide (u.port ≠ -1) = false := by simp [c3]
    have c3T : (u.port = -1) = True := eq_true c3
    rw [if_pos c3]
    repeat' first|simp (disch := first | omega | assumption | decide | (simp only [List.length_append,List.length_cons,List.length_nil]; omega)) only [go_sem,hm,hz,ht,hr_,ho,hpl,k1,k2,k4,k15,c1D,c2D,hn,ga,c3D,c3T,hit,wdl,bind_some_,map_some_,oneD_fold]|(apply ifP_in<;>intro)
    all_goals first | (refine ⟨?_, ?_⟩ <;> first | (simp; done) | (exact ⟨_, (List.append_assoc ..).symm⟩)) | (simp; done)
   ·have c3D : decide (u.port ≠ -1) = true := by simp [c3]
    have c3T : (u.port = -1) = False := eq_false c3
    rw [if_neg c3]
    repeat' first|simp (disch := first | omega | assumption | decide | (simp only [List.length_append,List.length_cons,List.length_nil]; omega)) only [go_sem,hm,hz,ht,hr_,ho,hpl,k1,k2,k4,k15,c1D,c2D,hn,ga,c3D,c3T,hit,wdl,bind_some_,map_some_,oneD_fold]|(apply ifP_in<;>intro)
    all_goals first | (refine ⟨?_, ?_⟩ <;> first | (simp; done) | (exact ⟨_, (List.append_assoc ..).symm⟩)) | (simp; done)
  ·have c2D : decide (u.pass ≠ []) = true := by simp [c2]
   have c2N : (u.pass = []) = False := eq_false c2
   rw [if_neg (fun h => c2 h.2), if_neg c2]
   repeat' first|simp (disch := first | omega | assumption | decide | (simp only [List.length_append,List.length_cons,List.length_nil]; omega)) only [go_sem,hm,hz,ht,hr_,ho,hpl,k1,k2,k4,k15,c1D,c2D,hn,c1N,c2N,wdl,bind_some_,map_some_,oneD_fold]|(apply ifP_in<;>intro)
   refine rF_use hpw ?_
   rintro _ H2 ⟨rfl, T2, rfl⟩
   have ga : (H ++ [cs] ++ T2)[H.length]? = some cs := by simp
   by_cases c3 : u.port = -1
   ·have c3D : decide (u.port ≠ -1) = false := by simp [c3]
    have c3T : (u.port = -1) = True := eq_true c3
    rw [if_pos c3]
    repeat' first|simp (disch := first | omega | assumption | decide | (simp only [List.length_append,List.length_cons,List.length_nil]; omega)) only [go_sem,hm,hz,ht,hr_,ho,hpl,k1,k2,k4,k15,c1D,c2D,hn,ga,c3D,c3T,hit,wdl,bind_some_,map_some_,oneD_fold]|(apply ifP_in<;>intro)
    all_goals first | (refine ⟨?_, ?_⟩ <;> first | (simp; done) | (exact ⟨_, (List.append_assoc ..).symm⟩)) | (simp; done)
   ·have c3D : decide (u.port ≠ -1) = true := by simp [c3]
    have c3T : (u.port = -1) = False := eq_false c3
    rw [if_neg c3]
    repeat' first|simp (disch := first | omega | assumption | decide | (simp only [List.length_append,List.length_cons,List.length_nil]; omega)) only [go_sem,hm,hz,ht,hr_,ho,hpl,k1,k2,k4,k15,c1D,c2D,hn,ga,c3D,c3T,hit,wdl,bind_some_,map_some_,oneD_fold]|(apply ifP_in<;>intro)
    all_goals first | (refine ⟨?_, ?_⟩ <;> first | (simp; done) | (exact ⟨_, (List.append_assoc ..).symm⟩)) | (simp; done)
end Hs
end Go.Proofs
/- Walks: addresses as texts, the whole. -/
set_option linter.unusedVariables false
set_option linter.unusedSimpArgs false
namespace Go.Proofs
open Go.Lv
namespace Hs
open Pu Ut Utf In
variable {H : Heap}
def slashT (l : List (List UInt8)) : List UInt8 := l.flatMap fun x => [47] ++ x
theorem slashT_take {l : List (List UInt8)} {i : Nat} (h : i < l.length) : slashT (l.take (i + 1)) = slashT (l.take i) ++ ([47] ++ l[i]) := by
 unfold slashT
 rw [List.take_succ_eq_append_getElem h, List.flatMap_append]; simp
theorem slashT_len : ∀ (l : List (List UInt8)), (slashT l).length = (l.map List.length).sum + l.length := by
 intro l
 induction l with
 | nil => rfl
 | cons x l ih =>
  have : slashT (x :: l) = [47] ++ x ++ slashT l := rfl
  rw [this, List.length_append, ih]; simp; omega
theorem slashT_le (l : List (List UInt8)) (i : Nat) : (slashT (l.take i)).length ≤ (l.map List.length).sum + l.length := by
 have h : slashT l = slashT (l.take i) ++ slashT (l.drop i) := by
  unfold slashT
  rw [← List.flatMap_append, List.take_append_drop]
 have := slashT_len l
 rw [h, List.length_append] at this
 omega
theorem headD_at : ∀ {l : List (List UInt8)} (h : 0 < l.length), l.headD [] = l[0] := by
 intro l h
 cases l with
 | nil => simp at h
 | cons x l => rfl
def dotT (dark : Bool) (path : List (List UInt8)) : List UInt8 := bif dark then [] else (if 1 < path.length ∧ path.headD [] = [] then [47, 46] else [])
def printT (u : UrlV) : List UInt8 := u.scheme ++ [58] ++ (bif u.has then whoT u else dotT u.dark u.path) ++ (bif u.dark then u.text else slashT u.path) ++ (bif u.hasQ then [63] ++ u.q else []) ++ (bif u.hasF then [35] ++ u.f else [])
theorem cred_len (a b : List UInt8) : (cred a b).length ≤ a.length + b.length + 2 := by
 unfold cred
 split
 ·simp
 ·split <;> simp <;> omega
theorem whoT_len {u : UrlV} (h8 : u.host.l.length = 8) (p0 : -9223372036854775808 ≤ u.port) (p1 : u.port ≤ 9223372036854775807) : (whoT u).length ≤ u.user.length + u.pass.length + u.host.n.length + 130 := by
 unfold whoT portT
 have h1 := cred_len u.user u.pass
 have h2 := prH_len h8
 have h3 := itoa_len p0 p1
 split <;> simp <;> omega
theorem print_wU (u : UrlV) (hu : u.fine) (hs : u.small) : WF Tryz.prog cfg 21 [.agg u.cells] H (fun r H' => r = .str (printT u) ∧ H <+: H') := by
 have hww := fun {H : Heap} => who_w (H := H) u hu hs
 obtain ⟨f1, f2, f3, f4, f5, f6, f7, f8, f9, hfin, p0, p1⟩ := hu
 have h8 := hfin.1
 have hwl := whoT_len h8 p0 p1
 obtain ⟨hs1, hs2, hs3⟩ := hs
 have hm : ∀ d, cfg.muF 21 d = (false) := fun _ => rfl
 have hz : ∀ d, cfg.fzF 21 d = (false) := fun _ => rfl
 have ht : ∀ d, cfg.tkF 21 d = (false) := fun _ => rfl
 have hr_ : ∀ g, cfg.raw g = (g == 253 || g == 225 || g == 53) := fun _ => rfl
 refine rF_fn rfl rfl Tryz.func21 rfl ?_
 unfold UrlV.cells at hww ⊢
 have hone : (pathC u).one = true := rfl
 have ho := u_one u (pathC u) hone
 have hn := u_len u (pathC u) h8
 have hpl := fun {x : Option AV} => u_pl u (pathC u) hone (x := x)
 have k0 := fun {s : Option Nat} => u_k0 u (pathC u) (s := s)
 have k1 := fun {s : Option Nat} => u_k1 u (pathC u) (s := s)
 have k2 := fun {s : Option Nat} => u_k2 u (pathC u) (s := s)
 have k3 := fun {s : Option Nat} => u_k3 u (pathC u) (s := s)
 have k4 := u_k4 u (pathC u) h8
 have k5 := fun {s : Option Nat} => u_k5 u (pathC u) (s := s)
 have k15 := fun {s : Option Nat} => u_k15 u (pathC u) h8 (s := s)
 have k16 := fun {s : Option Nat} => u_k16 u (pathC u) h8 (s := s)
 have k17 := fun {s : Option Nat} => u_k17 u (pathC u) h8 (s := s)
 have k18 : ∀ {s : Option Nat}, partD (some false) s (ucells u (pathC u)) 18 = some (.sl (u.path.map AV.str)) := fun {s} => u_k18 u (pathC u) h8 (s := s)
 have k19 := fun {s : Option Nat} => u_k19 u (pathC u) h8 (s := s)
 have k20 := fun {s : Option Nat} => u_k20 u (pathC u) h8 (s := s)
 have k21 := fun {s : Option Nat} => u_k21 u (pathC u) h8 (s := s)
 have k22 := fun {s : Option Nat} => u_k22 u (pathC u) h8 (s := s)
 have htk := u_take u (pathC u) h8
 generalize ucells u (pathC u) = cs at *
 have hle23 : (23 ≤ cs.length) = True := eq_true (by omega)
 unfold printT
 generalize whoT u = wt at *
 generalize u.has = bh at *
 generalize u.dark = bd at *
 generalize u.hasQ = bq at *
 generalize u.hasF = bf at *
 have hsl := slashT_len u.path
 cases bh
 ·cases bd
  ·-- a path, no host
   have hd : dotT false u.path = (if 1 < u.path.length ∧ u.path.headD [] = [] then [47, 46] else []) := rfl
   rw [hd]
   obtain ⟨K1, hK1⟩ : ∃ K1, K1 = H ++ [cs] := ⟨_, rfl⟩
   have gk : K1[H.length]? = some cs := by rw [hK1]; simp
   by_cases c1 : 1 < u.path.length
   ·have hix : ix u.path 0 = u.path[0] := ix_at (l := u.path) (i := 0) (by omega)
    have hh : u.path.headD [] = u.path[0] := headD_at (by omega)
    rw [hh]
    by_cases c2 : u.path[0] = []
    ·have c2D : decide (u.path[0] = []) = true := decide_eq_true c2
     have c2T : (u.path[0] = []) = True := eq_true c2
     rw [if_pos ⟨c1, c2⟩]
     obtain ⟨s0, hs0⟩ : ∃ s0, s0 = u.scheme ++ [58] ++ [47, 46] := ⟨_, rfl⟩
     have hs0l : s0.length = u.scheme.length + 3 := by rw [hs0]; simp
     repeat' first|simp (disch := first | omega | assumption | decide | (simp only [List.length_append,List.length_cons,List.length_nil]; omega)) only [go_sem,hm,hz,ht,hr_,ho,hpl,k0,k3,k16,k17,k18,k19,k20,k21,k22,hn,htk,Nat.le_refl,if_true,cond_true,cond_false,hle23,hix,c2D,c2T,wdl,bind_some_,map_some_,oneD_fold]|(apply ifP_in<;>intro)
     refine rL_loop (σ := Nat) (fun i e H' => H' = K1 ∧ e 1 = .ptr H.length 0 ∧ e 3 = .str (s0 ++ slashT (u.path.take i)) ∧ e 42 = .sl (u.path.map AV.str) ∧ e 43 = .i u.path.length ∧ e 44 = .i i ∧ i ≤ u.path.length) (fun i => u.path.length - i) 0 ?_ ?_
     ·refine ⟨?_, ?_, ?_, ?_, ?_, ?_, by omega⟩
      all_goals first | (simp (disch := first | assumption | omega) only [go_sem, hs0, hK1]; done) | (simp (disch := first | assumption | omega) only [go_sem, hs0, hK1]; rfl) | (simp (disch := first | assumption | omega) only [go_sem, hs0, hK1]; simp [slashT]; done) | (simp [slashT, hs0, hK1]; done)
     ·rintro i e H' ⟨rfl, g1, g3, g42, g43, g44, i1⟩
      have hsi := slashT_le u.path i
      by_cases hi : i < u.path.length
      ·have hix := ix_at hi
       have hxl := f9 _ (List.getElem_mem hi)
       have hst := slashT_take hi
       have hsi2 := slashT_le u.path (i + 1)
       rw [hst] at hsi2
       simp only [List.length_append, List.length_cons, List.length_nil] at hsi2
       generalize u.path[i] = x at hix hxl hst hsi2
       generalize slashT (u.path.take i) = sp at g3 hsi hsi2 hst ⊢
       repeat' first|simp (disch := first | omega | assumption | decide | (simp only [List.length_append,List.length_cons,List.length_nil]; omega)) only [go_sem,hm,hz,ht,hr_,g1,g3,g42,g43,g44,hix,wdl,bind_some_,map_some_,oneD_fold]|(apply ifP_in<;>intro)
       exact ⟨i + 1, ⟨by rw [hst]; simp, rfl, by omega⟩, by omega⟩
      ·obtain rfl : i = u.path.length := by omega
       rw [List.take_length] at g3 hsi
       generalize slashT u.path = sp at g3 hsi ⊢
       cases bq <;> cases bf
       all_goals
        repeat' first|simp (disch := first | omega | assumption | decide | (simp only [List.length_append,List.length_cons,List.length_nil]; omega)) only [go_sem,hm,hz,ht,hr_,g1,g3,g43,g44,gk,hpl,k19,k20,k21,k22,cond_true,cond_false,wdl,bind_some_,map_some_,oneD_fold]|(apply ifP_in<;>intro)
       all_goals first | (rw [hK1, List.append_assoc]; exact List.prefix_append _ _) | (rw [hK1]; exact List.prefix_append _ _) | (refine ⟨?_, ?_⟩ <;> first | (rw [hs0]; simp; done) | (rw [hs0]; done) | (rw [hs0]; simp [cond_true, cond_false]; done) | (rw [hK1, List.append_assoc]; exact List.prefix_append _ _) | (rw [hK1]; exact List.prefix_append _ _)) | (rw [hs0]; simp; done)
    ·have c2D : decide (u.path[0] = []) = false := decide_eq_false c2
     have c2T : (u.path[0] = []) = False := eq_false c2
     rw [if_neg (fun h => c2 h.2)]
     obtain ⟨s0, hs0⟩ : ∃ s0, s0 = u.scheme ++ [58] := ⟨_, rfl⟩
     have hs0l : s0.length = u.scheme.length + 1 := by rw [hs0]; simp
     repeat' first|simp (disch := first | omega | assumption | decide | (simp only [List.length_append,List.length_cons,List.length_nil]; omega)) only [go_sem,hm,hz,ht,hr_,ho,hpl,k0,k3,k16,k17,k18,k19,k20,k21,k22,hn,htk,Nat.le_refl,if_true,cond_true,cond_false,hle23,hix,c2D,c2T,wdl,bind_some_,map_some_,oneD_fold]|(apply ifP_in<;>intro)
     refine rL_loop (σ := Nat) (fun i e H' => H' = K1 ∧ e 1 = .ptr H.length 0 ∧ e 3 = .str (s0 ++ slashT (u.path.take i)) ∧ e 42 = .sl (u.path.map AV.str) ∧ e 43 = .i u.path.length ∧ e 44 = .i i ∧ i ≤ u.path.length) (fun i => u.path.length - i) 0 ?_ ?_
     ·refine ⟨?_, ?_, ?_, ?_, ?_, ?_, by omega⟩
      all_goals first | (simp (disch := first | assumption | omega) only [go_sem, hs0, hK1]; done) | (simp (disch := first | assumption | omega) only [go_sem, hs0, hK1]; rfl) | (simp (disch := first | assumption | omega) only [go_sem, hs0, hK1]; simp [slashT]; done) | (simp [slashT, hs0, hK1]; done)
     ·rintro i e H' ⟨rfl, g1, g3, g42, g43, g44, i1⟩
      have hsi := slashT_le u.path i
      by_cases hi : i < u.path.length
      ·have hix := ix_at hi
       have hxl := f9 _ (List.getElem_mem hi)
       have hst := slashT_take hi
       have hsi2 := slashT_le u.path (i + 1)
       rw [hst] at hsi2
       simp only [List.length_append, List.length_cons, List.length_nil] at hsi2
       generalize u.path[i] = x at hix hxl hst hsi2
       generalize slashT (u.path.take i) = sp at g3 hsi hsi2 hst ⊢
       repeat' first|simp (disch := first | omega | assumption | decide | (simp only [List.length_append,List.length_cons,List.length_nil]; omega)) only [go_sem,hm,hz,ht,hr_,g1,g3,g42,g43,g44,hix,wdl,bind_some_,map_some_,oneD_fold]|(apply ifP_in<;>intro)
       exact ⟨i + 1, ⟨by rw [hst]; simp, rfl, by omega⟩, by omega⟩
      ·obtain rfl : i = u.path.length := by omega
       rw [List.take_length] at g3 hsi
       generalize slashT u.path = sp at g3 hsi ⊢
       cases bq <;> cases bf
       all_goals
        repeat' first|simp (disch := first | omega | assumption | decide | (simp only [List.length_append,List.length_cons,List.length_nil]; omega)) only [go_sem,hm,hz,ht,hr_,g1,g3,g43,g44,gk,hpl,k19,k20,k21,k22,cond_true,cond_false,wdl,bind_some_,map_some_,oneD_fold]|(apply ifP_in<;>intro)
       all_goals first | (rw [hK1, List.append_assoc]; exact List.prefix_append _ _) | (rw [hK1]; exact List.prefix_append _ _) | (refine ⟨?_, ?_⟩ <;> first | (rw [hs0]; simp; done) | (rw [hs0]; done) | (rw [hs0]; simp [cond_true, cond_false]; done) | (rw [hK1, List.append_assoc]; exact List.prefix_append _ _) | (rw [hK1]; exact List.prefix_append _ _)) | (rw [hs0]; simp; done)
   ·rw [if_neg (fun h => c1 h.1)]
    obtain ⟨s0, hs0⟩ : ∃ s0, s0 = u.scheme ++ [58] := ⟨_, rfl⟩
    have hs0l : s0.length = u.scheme.length + 1 := by rw [hs0]; simp
    repeat' first|simp (disch := first | omega | assumption | decide | (simp only [List.length_append,List.length_cons,List.length_nil]; omega)) only [go_sem,hm,hz,ht,hr_,ho,hpl,k0,k3,k16,k17,k18,k19,k20,k21,k22,hn,htk,Nat.le_refl,if_true,cond_true,cond_false,hle23,wdl,bind_some_,map_some_,oneD_fold]|(apply ifP_in<;>intro)
    refine rL_loop (σ := Nat) (fun i e H' => H' = K1 ∧ e 1 = .ptr H.length 0 ∧ e 3 = .str (s0 ++ slashT (u.path.take i)) ∧ e 42 = .sl (u.path.map AV.str) ∧ e 43 = .i u.path.length ∧ e 44 = .i i ∧ i ≤ u.path.length) (fun i => u.path.length - i) 0 ?_ ?_
    ·refine ⟨?_, ?_, ?_, ?_, ?_, ?_, by omega⟩
     all_goals first | (simp (disch := first | assumption | omega) only [go_sem, hs0, hK1]; done) | (simp (disch := first | assumption | omega) only [go_sem, hs0, hK1]; rfl) | (simp (disch := first | assumption | omega) only [go_sem, hs0, hK1]; simp [slashT]; done) | (simp [slashT, hs0, hK1]; done)
    ·rintro i e H' ⟨rfl, g1, g3, g42, g43, g44, i1⟩
     have hsi := slashT_le u.path i
     by_cases hi : i < u.path.length
     ·have hix := ix_at hi
      have hxl := f9 _ (List.getElem_mem hi)
      have hst := slashT_take hi
      have hsi2 := slashT_le u.path (i + 1)
      rw [hst] at hsi2
      simp only [List.length_append, List.length_cons, List.length_nil] at hsi2
      generalize u.path[i] = x at hix hxl hst hsi2
      generalize slashT (u.path.take i) = sp at g3 hsi hsi2 hst ⊢
      repeat' first|simp (disch := first | omega | assumption | decide | (simp only [List.length_append,List.length_cons,List.length_nil]; omega)) only [go_sem,hm,hz,ht,hr_,g1,g3,g42,g43,g44,hix,wdl,bind_some_,map_some_,oneD_fold]|(apply ifP_in<;>intro)
      exact ⟨i + 1, ⟨by rw [hst]; simp, rfl, by omega⟩, by omega⟩
     ·obtain rfl : i = u.path.length := by omega
      rw [List.take_length] at g3 hsi
      generalize slashT u.path = sp at g3 hsi ⊢
      cases bq <;> cases bf
      all_goals
       repeat' first|simp (disch := first | omega | assumption | decide | (simp only [List.length_append,List.length_cons,List.length_nil]; omega)) only [go_sem,hm,hz,ht,hr_,g1,g3,g43,g44,gk,hpl,k19,k20,k21,k22,cond_true,cond_false,wdl,bind_some_,map_some_,oneD_fold]|(apply ifP_in<;>intro)
      all_goals first | (rw [hK1, List.append_assoc]; exact List.prefix_append _ _) | (rw [hK1]; exact List.prefix_append _ _) | (refine ⟨?_, ?_⟩ <;> first | (rw [hs0]; simp; done) | (rw [hs0]; done) | (rw [hs0]; simp [cond_true, cond_false]; done) | (rw [hK1, List.append_assoc]; exact List.prefix_append _ _) | (rw [hK1]; exact List.prefix_append _ _)) | (rw [hs0]; simp; done)
  ·have hd : dotT true u.path = [] := rfl
   rw [hd]
   cases bq <;> cases bf
   all_goals
    repeat' first|simp (disch := first | omega | assumption | decide | (simp only [List.length_append,List.length_cons,List.length_nil]; omega)) only [go_sem,hm,hz,ht,hr_,ho,hpl,k0,k3,k16,k17,k18,k19,k20,k21,k22,hn,htk,Nat.le_refl,if_true,cond_true,cond_false,hle23,wdl,bind_some_,map_some_,oneD_fold]|(apply ifP_in<;>intro)
   all_goals first | (refine ⟨?_, ?_⟩ <;> first | (simp; done) | (exact ⟨_, (List.append_assoc ..).symm⟩) | exact List.prefix_append _ _) | (simp; done)
 ·cases bd
  ·obtain ⟨s0, hs0⟩ : ∃ s0, s0 = u.scheme ++ [58] ++ wt := ⟨_, rfl⟩
   have hs0l : s0.length = u.scheme.length + 1 + wt.length := by rw [hs0]; simp; omega
   repeat' first|simp (disch := first | omega | assumption | decide | (simp only [List.length_append,List.length_cons,List.length_nil]; omega)) only [go_sem,hm,hz,ht,hr_,ho,hpl,k0,k3,k16,k17,k18,k19,k20,k21,k22,hn,htk,Nat.le_refl,if_true,cond_true,cond_false,hle23,wdl,bind_some_,map_some_,oneD_fold]|(apply ifP_in<;>intro)
   refine rF_use hww ?_
   rintro _ H2 ⟨rfl, T2, rfl⟩
   have ga : (H ++ [cs] ++ T2)[H.length]? = some cs := by simp
   obtain ⟨K1, hK1⟩ : ∃ K1, K1 = H ++ [cs] ++ T2 := ⟨_, rfl⟩
   have gk : K1[H.length]? = some cs := by rw [hK1]; exact ga
   repeat' first|simp (disch := first | omega | assumption | decide | (simp only [List.length_append,List.length_cons,List.length_nil]; omega)) only [go_sem,hm,hz,ht,hr_,ho,hpl,k0,k3,k16,k17,k18,k19,k20,k21,k22,hn,htk,Nat.le_refl,if_true,cond_true,cond_false,hle23,ga,wdl,bind_some_,map_some_,oneD_fold]|(apply ifP_in<;>intro)
   refine rL_loop (σ := Nat) (fun i e H' => H' = K1 ∧ e 1 = .ptr H.length 0 ∧ e 3 = .str (s0 ++ slashT (u.path.take i)) ∧ e 42 = .sl (u.path.map AV.str) ∧ e 43 = .i u.path.length ∧ e 44 = .i i ∧ i ≤ u.path.length) (fun i => u.path.length - i) 0 ?_ ?_
   ·refine ⟨?_, ?_, ?_, ?_, ?_, ?_, by omega⟩
    all_goals first | (simp (disch := first | assumption | omega) only [go_sem, hs0, hK1]; done) | (simp (disch := first | assumption | omega) only [go_sem, hs0, hK1]; rfl) | (simp (disch := first | assumption | omega) only [go_sem, hs0, hK1]; simp [slashT]; done) | (simp [slashT, hs0, hK1]; done)
   ·rintro i e H' ⟨rfl, g1, g3, g42, g43, g44, i1⟩
    have hsi := slashT_le u.path i
    by_cases hi : i < u.path.length
    ·have hix := ix_at hi
     have hxl := f9 _ (List.getElem_mem hi)
     have hst := slashT_take hi
     have hsi2 := slashT_le u.path (i + 1)
     rw [hst] at hsi2
     simp only [List.length_append, List.length_cons, List.length_nil] at hsi2
     generalize u.path[i] = x at hix hxl hst hsi2
     generalize slashT (u.path.take i) = sp at g3 hsi hsi2 hst ⊢
     repeat' first|simp (disch := first | omega | assumption | decide | (simp only [List.length_append,List.length_cons,List.length_nil]; omega)) only [go_sem,hm,hz,ht,hr_,g1,g3,g42,g43,g44,hix,wdl,bind_some_,map_some_,oneD_fold]|(apply ifP_in<;>intro)
     exact ⟨i + 1, ⟨by rw [hst]; simp, rfl, by omega⟩, by omega⟩
    ·obtain rfl : i = u.path.length := by omega
     rw [List.take_length] at g3 hsi
     generalize slashT u.path = sp at g3 hsi ⊢
     cases bq <;> cases bf
     all_goals
      repeat' first|simp (disch := first | omega | assumption | decide | (simp only [List.length_append,List.length_cons,List.length_nil]; omega)) only [go_sem,hm,hz,ht,hr_,g1,g3,g43,g44,gk,hpl,k19,k20,k21,k22,cond_true,cond_false,wdl,bind_some_,map_some_,oneD_fold]|(apply ifP_in<;>intro)
     all_goals first | (rw [hK1, List.append_assoc]; exact List.prefix_append _ _) | (rw [hK1]; exact List.prefix_append _ _) | (refine ⟨?_, ?_⟩ <;> first | (rw [hs0]; simp; done) | (rw [hs0]; done) | (rw [hs0]; simp [cond_true, cond_false]; done) | (rw [hK1, List.append_assoc]; exact List.prefix_append _ _) | (rw [hK1]; exact List.prefix_append _ _)) | (rw [hs0]; simp; done)
  ·repeat' first|simp (disch := first | omega | assumption | decide | (simp only [List.length_append,List.length_cons,List.length_nil]; omega)) only [go_sem,hm,hz,ht,hr_,ho,hpl,k0,k3,k16,k17,k18,k19,k20,k21,k22,hn,htk,Nat.le_refl,if_true,cond_true,cond_false,hle23,wdl,bind_some_,map_some_,oneD_fold]|(apply ifP_in<;>intro)
   refine rF_use hww ?_
   rintro _ H2 ⟨rfl, T2, rfl⟩
   have ga : (H ++ [cs] ++ T2)[H.length]? = some cs := by simp
   cases bq <;> cases bf
   all_goals
    repeat' first|simp (disch := first | omega | assumption | decide | (simp only [List.length_append,List.length_cons,List.length_nil]; omega)) only [go_sem,hm,hz,ht,hr_,ho,hpl,k0,k3,k16,k17,k18,k19,k20,k21,k22,hn,htk,Nat.le_refl,if_true,cond_true,cond_false,hle23,ga,wdl,bind_some_,map_some_,oneD_fold]|(apply ifP_in<;>intro)
   all_goals first | (refine ⟨?_, ?_⟩ <;> first | (simp; done) | (exact ⟨_, (List.append_assoc ..).symm⟩) | exact List.prefix_append _ _) | (simp; done)
end Hs
end Go.Proofs
/- Walks: addresses as texts, the document's side. -/
set_option linter.unusedVariables false
set_option linter.unusedSimpArgs false
namespace Go.Proofs
open Go.Lv
namespace Hs
open Pu Ut Utf In
variable {H : Heap}
set_option maxHeartbeats 4000000 in
theorem print_rU (u : UrlV) (hu : u.fine) (hs : u.small) : WF Tryz.prog cfg 28 [.agg u.cells] H (fun r H' => r = .str (printT u) ∧ H <+: H') := by
 obtain ⟨f1, f2, f3, f4, f5, f6, f7, f8, f9, hfin, p0, p1⟩ := hu
 have h8 := hfin.1
 have hwl := whoT_len h8 p0 p1
 obtain ⟨hs1, hs2, hs3⟩ := hs
 have hpr := fun {H : Heap} => print_rH (H := H) u.host hfin
 have hpn := prH_len h8
 have hil := itoa_len p0 p1
 have hit := fun {H : Heap} {Q : K (AV → Heap → Prop)} => decs_e (H := H) p0 p1 (Q := Q)
 have hm : ∀ d, cfg.muF 28 d = (false) := fun _ => rfl
 have hz : ∀ d, cfg.fzF 28 d = (false) := fun _ => rfl
 have ht : ∀ d, cfg.tkF 28 d = (false) := fun _ => rfl
 have hr_ : ∀ g, cfg.raw g = (g == 253 || g == 225 || g == 53) := fun _ => rfl
 refine rF_fn rfl rfl Tryz.func28 rfl ?_
 unfold UrlV.cells
 have hone : (pathC u).one = true := rfl
 have ho := u_one u (pathC u) hone
 have hn := u_len u (pathC u) h8
 have hpl := fun {x : Option AV} => u_pl u (pathC u) hone (x := x)
 have k0 := fun {s : Option Nat} => u_k0 u (pathC u) (s := s)
 have k1 := fun {s : Option Nat} => u_k1 u (pathC u) (s := s)
 have k2 := fun {s : Option Nat} => u_k2 u (pathC u) (s := s)
 have k3 := fun {s : Option Nat} => u_k3 u (pathC u) (s := s)
 have k4 := u_k4 u (pathC u) h8
 have k5 := fun {s : Option Nat} => u_k5 u (pathC u) (s := s)
 have k15 := fun {s : Option Nat} => u_k15 u (pathC u) h8 (s := s)
 have k16 := fun {s : Option Nat} => u_k16 u (pathC u) h8 (s := s)
 have k17 := fun {s : Option Nat} => u_k17 u (pathC u) h8 (s := s)
 have k18 : ∀ {s : Option Nat}, partD (some false) s (ucells u (pathC u)) 18 = some (.sl (u.path.map AV.str)) := fun {s} => u_k18 u (pathC u) h8 (s := s)
 have k19 := fun {s : Option Nat} => u_k19 u (pathC u) h8 (s := s)
 have k20 := fun {s : Option Nat} => u_k20 u (pathC u) h8 (s := s)
 have k21 := fun {s : Option Nat} => u_k21 u (pathC u) h8 (s := s)
 have k22 := fun {s : Option Nat} => u_k22 u (pathC u) h8 (s := s)
 have htk := u_take u (pathC u) h8
 generalize ucells u (pathC u) = cs at *
 have hle23 : (23 ≤ cs.length) = True := eq_true (by omega)
 unfold printT
 generalize u.has = bh at *
 generalize u.dark = bd at *
 generalize u.hasQ = bq at *
 generalize u.hasF = bf at *
 have hsl := slashT_len u.path
 cases bh
 ·cases bd
  ·-- a path, no host
   have c1 : True := trivial
   have c2 : True := trivial
   have hd : dotT false u.path = (if 1 < u.path.length ∧ u.path.headD [] = [] then [47, 46] else []) := rfl
   rw [hd]
   obtain ⟨K1, hK1⟩ : ∃ K1, K1 = H ++ [cs] := ⟨_, rfl⟩
   have gk : K1[H.length]? = some cs := by rw [hK1]; simp
   by_cases c1 : 1 < u.path.length
   ·have hix : ix u.path 0 = u.path[0] := ix_at (l := u.path) (i := 0) (by omega)
    have hh : u.path.headD [] = u.path[0] := headD_at (by omega)
    rw [hh]
    by_cases c2 : u.path[0] = []
    ·have c2D : decide (u.path[0] = []) = true := decide_eq_true c2
     have c2T : (u.path[0] = []) = True := eq_true c2
     rw [if_pos ⟨c1, c2⟩]
     obtain ⟨s0, hs0⟩ : ∃ s0, s0 = u.scheme ++ [58] ++ [47, 46] := ⟨_, rfl⟩
     have hs0l : s0.length = u.scheme.length + 3 := by rw [hs0]; simp
     repeat' first|simp (disch := first | omega | assumption | decide | (simp only [List.length_append,List.length_cons,List.length_nil]; omega)) only [go_sem,hm,hz,ht,hr_,ho,hpl,k0,k1,k2,k3,k4,k15,k16,k17,k18,k19,k20,k21,k22,hn,htk,Nat.le_refl,if_true,cond_true,cond_false,hle23,hix,c2D,c2T,wdl,bind_some_,map_some_,oneD_fold]|(apply ifP_in<;>intro)
     refine rL_loop (σ := Nat) (fun i e H' => H' = K1 ∧ e 1 = .ptr H.length 0 ∧ e 3 = .str (s0 ++ slashT (u.path.take i)) ∧ e 4 = .i i ∧ i ≤ u.path.length) (fun i => u.path.length - i) 0 ?_ ?_
     ·refine ⟨?_, ?_, ?_, ?_, by omega⟩
      all_goals first | (simp (disch := first | assumption | omega) only [go_sem, hs0, hK1]; done) | (simp (disch := first | assumption | omega) only [go_sem, hs0, hK1]; rfl) | (simp (disch := first | assumption | omega) only [go_sem, hs0, hK1]; simp [slashT]; done) | (simp (disch := first | assumption | omega) only [go_sem, hs0, hK1]; simp [slashT, c1, c2]; done) | (simp [slashT, hs0, hK1]; done)
     ·rintro i e H' ⟨rfl, g1, g3, g4, i1⟩
      have hsi := slashT_le u.path i
      by_cases hi : i < u.path.length
      ·have hix := ix_at hi
       have hxl := f9 _ (List.getElem_mem hi)
       have hst := slashT_take hi
       have hsi2 := slashT_le u.path (i + 1)
       rw [hst] at hsi2
       simp only [List.length_append, List.length_cons, List.length_nil] at hsi2
       generalize u.path[i] = x at hix hxl hst hsi2
       generalize slashT (u.path.take i) = sp at g3 hsi hsi2 hst ⊢
       repeat' first|simp (disch := first | omega | assumption | decide | (simp only [List.length_append,List.length_cons,List.length_nil]; omega)) only [go_sem,hm,hz,ht,hr_,g1,g3,g4,hix,gk,hpl,k16,k18,wdl,bind_some_,map_some_,oneD_fold]|(apply ifP_in<;>intro)
       exact ⟨i + 1, ⟨by rw [hst]; simp, rfl, by omega⟩, by omega⟩
      ·obtain rfl : i = u.path.length := by omega
       rw [List.take_length] at g3 hsi
       generalize slashT u.path = sp at g3 hsi ⊢
       cases bq <;> cases bf
       all_goals
        repeat' first|simp (disch := first | omega | assumption | decide | (simp only [List.length_append,List.length_cons,List.length_nil]; omega)) only [go_sem,hm,hz,ht,hr_,g1,g3,g4,gk,hpl,k16,k18,k19,k20,k21,k22,cond_true,cond_false,wdl,bind_some_,map_some_,oneD_fold]|(apply ifP_in<;>intro)
       all_goals first | (rw [hK1, List.append_assoc]; exact List.prefix_append _ _) | (rw [hK1]; exact List.prefix_append _ _) | (refine ⟨?_, ?_⟩ <;> first | (rw [hs0]; done) | (rw [hs0]; simp; done) | (rw [hs0]; simp [c1, c2]; done) | (rw [hK1, List.append_assoc]; exact List.prefix_append _ _) | (rw [hK1]; exact List.prefix_append _ _)) | (rw [hs0]; simp; done)
    ·have c2D : decide (u.path[0] = []) = false := decide_eq_false c2
     have c2T : (u.path[0] = []) = False := eq_false c2
     rw [if_neg (fun h => c2 h.2)]
     obtain ⟨s0, hs0⟩ : ∃ s0, s0 = u.scheme ++ [58] := ⟨_, rfl⟩
     have hs0l : s0.length = u.scheme.length + 1 := by rw [hs0]; simp
     repeat' first|simp (disch := first | omega | assumption | decide | (simp only [List.length_append,List.length_cons,List.length_nil]; omega)) only [go_sem,hm,hz,ht,hr_,ho,hpl,k0,k1,k2,k3,k4,k15,k16,k17,k18,k19,k20,k21,k22,hn,htk,Nat.le_refl,if_true,cond_true,cond_false,hle23,hix,c2D,c2T,wdl,bind_some_,map_some_,oneD_fold]|(apply ifP_in<;>intro)
     refine rL_loop (σ := Nat) (fun i e H' => H' = K1 ∧ e 1 = .ptr H.length 0 ∧ e 3 = .str (s0 ++ slashT (u.path.take i)) ∧ e 4 = .i i ∧ i ≤ u.path.length) (fun i => u.path.length - i) 0 ?_ ?_
     ·refine ⟨?_, ?_, ?_, ?_, by omega⟩
      all_goals first | (simp (disch := first | assumption | omega) only [go_sem, hs0, hK1]; done) | (simp (disch := first | assumption | omega) only [go_sem, hs0, hK1]; rfl) | (simp (disch := first | assumption | omega) only [go_sem, hs0, hK1]; simp [slashT]; done) | (simp (disch := first | assumption | omega) only [go_sem, hs0, hK1]; simp [slashT, c1, c2]; done) | (simp [slashT, hs0, hK1]; done)
     ·rintro i e H' ⟨rfl, g1, g3, g4, i1⟩
      have hsi := slashT_le u.path i
      by_cases hi : i < u.path.length
      ·have hix := ix_at hi
       have hxl := f9 _ (List.getElem_mem hi)
       have hst := slashT_take hi
       have hsi2 := slashT_le u.path (i + 1)
       rw [hst] at hsi2
       simp only [List.length_append, List.length_cons, List.length_nil] at hsi2
       generalize u.path[i] = x at hix hxl hst hsi2
       generalize slashT (u.path.take i) = sp at g3 hsi hsi2 hst ⊢
       repeat' first|simp (disch := first | omega | assumption | decide | (simp only [List.length_append,List.length_cons,List.length_nil]; omega)) only [go_sem,hm,hz,ht,hr_,g1,g3,g4,hix,gk,hpl,k16,k18,wdl,bind_some_,map_some_,oneD_fold]|(apply ifP_in<;>intro)
       exact ⟨i + 1, ⟨by rw [hst]; simp, rfl, by omega⟩, by omega⟩
      ·obtain rfl : i = u.path.length := by omega
       rw [List.take_length] at g3 hsi
       generalize slashT u.path = sp at g3 hsi ⊢
       cases bq <;> cases bf
       all_goals
        repeat' first|simp (disch := first | omega | assumption | decide | (simp only [List.length_append,List.length_cons,List.length_nil]; omega)) only [go_sem,hm,hz,ht,hr_,g1,g3,g4,gk,hpl,k16,k18,k19,k20,k21,k22,cond_true,cond_false,wdl,bind_some_,map_some_,oneD_fold]|(apply ifP_in<;>intro)
       all_goals first | (rw [hK1, List.append_assoc]; exact List.prefix_append _ _) | (rw [hK1]; exact List.prefix_append _ _) | (refine ⟨?_, ?_⟩ <;> first | (rw [hs0]; done) | (rw [hs0]; simp; done) | (rw [hs0]; simp [c1, c2]; done) | (rw [hK1, List.append_assoc]; exact List.prefix_append _ _) | (rw [hK1]; exact List.prefix_append _ _)) | (rw [hs0]; simp; done)
   ·rw [if_neg (fun h => c1 h.1)]
    obtain ⟨s0, hs0⟩ : ∃ s0, s0 = u.scheme ++ [58] := ⟨_, rfl⟩
    have hs0l : s0.length = u.scheme.length + 1 := by rw [hs0]; simp
    repeat' first|simp (disch := first | omega | assumption | decide | (simp only [List.length_append,List.length_cons,List.length_nil]; omega)) only [go_sem,hm,hz,ht,hr_,ho,hpl,k0,k1,k2,k3,k4,k15,k16,k17,k18,k19,k20,k21,k22,hn,htk,Nat.le_refl,if_true,cond_true,cond_false,hle23,wdl,bind_some_,map_some_,oneD_fold]|(apply ifP_in<;>intro)
    refine rL_loop (σ := Nat) (fun i e H' => H' = K1 ∧ e 1 = .ptr H.length 0 ∧ e 3 = .str (s0 ++ slashT (u.path.take i)) ∧ e 4 = .i i ∧ i ≤ u.path.length) (fun i => u.path.length - i) 0 ?_ ?_
    ·refine ⟨?_, ?_, ?_, ?_, by omega⟩
     all_goals first | (simp (disch := first | assumption | omega) only [go_sem, hs0, hK1]; done) | (simp (disch := first | assumption | omega) only [go_sem, hs0, hK1]; rfl) | (simp (disch := first | assumption | omega) only [go_sem, hs0, hK1]; simp [slashT]; done) | (simp (disch := first | assumption | omega) only [go_sem, hs0, hK1]; simp [slashT, c1, c2]; done) | (simp [slashT, hs0, hK1]; done)
    ·rintro i e H' ⟨rfl, g1, g3, g4, i1⟩
     have hsi := slashT_le u.path i
     by_cases hi : i < u.path.length
     ·have hix := ix_at hi
      have hxl := f9 _ (List.getElem_mem hi)
      have hst := slashT_take hi
      have hsi2 := slashT_le u.path (i + 1)
      rw [hst] at hsi2
      simp only [List.length_append, List.length_cons, List.length_nil] at hsi2
      generalize u.path[i] = x at hix hxl hst hsi2
      generalize slashT (u.path.take i) = sp at g3 hsi hsi2 hst ⊢
      repeat' first|simp (disch := first | omega | assumption | decide | (simp only [List.length_append,List.length_cons,List.length_nil]; omega)) only [go_sem,hm,hz,ht,hr_,g1,g3,g4,hix,gk,hpl,k16,k18,wdl,bind_some_,map_some_,oneD_fold]|(apply ifP_in<;>intro)
      exact ⟨i + 1, ⟨by rw [hst]; simp, rfl, by omega⟩, by omega⟩
     ·obtain rfl : i = u.path.length := by omega
      rw [List.take_length] at g3 hsi
      generalize slashT u.path = sp at g3 hsi ⊢
      cases bq <;> cases bf
      all_goals
       repeat' first|simp (disch := first | omega | assumption | decide | (simp only [List.length_append,List.length_cons,List.length_nil]; omega)) only [go_sem,hm,hz,ht,hr_,g1,g3,g4,gk,hpl,k16,k18,k19,k20,k21,k22,cond_true,cond_false,wdl,bind_some_,map_some_,oneD_fold]|(apply ifP_in<;>intro)
      all_goals first | (rw [hK1, List.append_assoc]; exact List.prefix_append _ _) | (rw [hK1]; exact List.prefix_append _ _) | (refine ⟨?_, ?_⟩ <;> first | (rw [hs0]; done) | (rw [hs0]; simp; done) | (rw [hs0]; simp [c1, c2]; done) | (rw [hK1, List.append_assoc]; exact List.prefix_append _ _) | (rw [hK1]; exact List.prefix_append _ _)) | (rw [hs0]; simp; done)
  ·have hd : dotT true u.path = [] := rfl
   have c1 : True := trivial
   have c2 : True := trivial
   rw [hd]
   obtain ⟨K1, hK1⟩ : ∃ K1, K1 = H ++ [cs] := ⟨_, rfl⟩
   have gk : K1[H.length]? = some cs := by rw [hK1]; simp
   obtain ⟨s0, hs0⟩ : ∃ s0, s0 = u.scheme ++ [58] ++ u.text := ⟨_, rfl⟩
   have hs0l : s0.length = u.scheme.length + 1 + u.text.length := by rw [hs0]; simp; omega
   repeat' first|simp (disch := first | omega | assumption | decide | (simp only [List.length_append,List.length_cons,List.length_nil]; omega)) only [go_sem,hm,hz,ht,hr_,ho,hpl,k0,k1,k2,k3,k4,k15,k16,k17,k18,k19,k20,k21,k22,hn,htk,Nat.le_refl,if_true,cond_true,cond_false,hle23,wdl,bind_some_,map_some_,oneD_fold]|(apply ifP_in<;>intro)
   refine rL_loop (σ := Unit) (fun _ e H' => H' = K1 ∧ e 1 = .ptr H.length 0 ∧ e 3 = .str s0 ∧ e 4 = .i 0) (fun _ => 0) () ?_ ?_
   ·refine ⟨?_, ?_, ?_, ?_⟩
    all_goals first | (simp (disch := first | assumption | omega) only [go_sem, hs0, hK1]; done) | (simp (disch := first | assumption | omega) only [go_sem, hs0, hK1]; rfl) | (simp (disch := first | assumption | omega) only [go_sem, hs0, hK1]; simp; done) | (simp (disch := first | assumption | omega) only [go_sem, hs0, hK1]; simp [c1, c2]; done) | (simp [hs0, hK1]; done)
   ·rintro _ e H' ⟨rfl, g1, g3, g4⟩
    by_cases hi : 0 < u.path.length
    ·cases bq <;> cases bf
     all_goals
      repeat' first|simp (disch := first | omega | assumption | decide | (simp only [List.length_append,List.length_cons,List.length_nil]; omega)) only [go_sem,hm,hz,ht,hr_,g1,g3,g4,gk,hpl,k16,k18,k19,k20,k21,k22,cond_true,cond_false,wdl,bind_some_,map_some_,oneD_fold]|(apply ifP_in<;>intro)
     all_goals first | (rw [hK1, List.append_assoc]; exact List.prefix_append _ _) | (rw [hK1]; exact List.prefix_append _ _) | (refine ⟨?_, ?_⟩ <;> first | (rw [hs0]; done) | (rw [hs0]; simp; done) | (rw [hs0]; simp [c1, c2]; done) | (rw [hK1, List.append_assoc]; exact List.prefix_append _ _) | (rw [hK1]; exact List.prefix_append _ _)) | (rw [hs0]; simp; done)
    ·cases bq <;> cases bf
     all_goals
      repeat' first|simp (disch := first | omega | assumption | decide | (simp only [List.length_append,List.length_cons,List.length_nil]; omega)) only [go_sem,hm,hz,ht,hr_,g1,g3,g4,gk,hpl,k16,k18,k19,k20,k21,k22,cond_true,cond_false,wdl,bind_some_,map_some_,oneD_fold]|(apply ifP_in<;>intro)
     all_goals first | (rw [hK1, List.append_assoc]; exact List.prefix_append _ _) | (rw [hK1]; exact List.prefix_append _ _) | (refine ⟨?_, ?_⟩ <;> first | (rw [hs0]; done) | (rw [hs0]; simp; done) | (rw [hs0]; simp [c1, c2]; done) | (rw [hK1, List.append_assoc]; exact List.prefix_append _ _) | (rw [hK1]; exact List.prefix_append _ _)) | (rw [hs0]; simp; done)
 ·unfold whoT portT cred
  generalize u.host.cells = hc at *
  generalize prH u.host = t at *
  generalize Lib.itoa u.port = it at *
  by_cases c1 : u.user = []
  ·have c1D : decide (u.user ≠ []) = false := by simp [c1]
   have c1T : (u.user = []) = True := eq_true c1
   by_cases c2 : u.pass = []
   ·have c2D : decide (u.pass ≠ []) = false := by simp [c2]
    have c2T : (u.pass = []) = True := eq_true c2
    rw [if_pos ⟨c1, c2⟩]
    by_cases c3 : u.port = -1
    ·have c3D : decide (u.port ≠ -1) = false := by simp [c3]
     have c3T : (u.port = -1) = True := eq_true c3
     rw [if_pos c3]
     obtain ⟨wt, hwt⟩ : ∃ wt, wt = [47, 47] ++ [] ++ t ++ [] := ⟨_, rfl⟩
     have hwtl : wt.length ≤ u.user.length + u.pass.length + t.length + 30 := by rw [hwt]; simp; omega
     cases bd
     ·obtain ⟨s0, hs0⟩ : ∃ s0, s0 = u.scheme ++ [58] ++ wt := ⟨_, rfl⟩
      have hs0l : s0.length = u.scheme.length + 1 + wt.length := by rw [hs0]; simp; omega
      rw [hwt] at hs0
      repeat' first|simp (disch := first | omega | assumption | decide | (simp only [List.length_append,List.length_cons,List.length_nil]; omega)) only [go_sem,hm,hz,ht,hr_,ho,hpl,k0,k1,k2,k3,k4,k15,k16,k17,k18,k19,k20,k21,k22,hn,htk,Nat.le_refl,if_true,cond_true,cond_false,hle23,c1D,c2D,c1T,c2T,wdl,bind_some_,map_some_,oneD_fold]|(apply ifP_in<;>intro)
      refine rF_use hpr ?_
      rintro _ H2 ⟨rfl, T2, rfl⟩
      have ga : (H ++ [cs] ++ T2)[H.length]? = some cs := by simp
      obtain ⟨K1, hK1⟩ : ∃ K1, K1 = H ++ [cs] ++ T2 := ⟨_, rfl⟩
      have gk : K1[H.length]? = some cs := by rw [hK1]; exact ga
      repeat' first|simp (disch := first | omega | assumption | decide | (simp only [List.length_append,List.length_cons,List.length_nil]; omega)) only [go_sem,hm,hz,ht,hr_,ho,hpl,k0,k1,k2,k3,k4,k15,k16,k17,k18,k19,k20,k21,k22,hn,htk,Nat.le_refl,if_true,cond_true,cond_false,hle23,ga,c3D,c3T,hit,c1D,c2D,c1T,c2T,wdl,bind_some_,map_some_,oneD_fold]|(apply ifP_in<;>intro)
      refine rL_loop (σ := Nat) (fun i e H' => H' = K1 ∧ e 1 = .ptr H.length 0 ∧ e 3 = .str (s0 ++ slashT (u.path.take i)) ∧ e 4 = .i i ∧ i ≤ u.path.length) (fun i => u.path.length - i) 0 ?_ ?_
      ·refine ⟨?_, ?_, ?_, ?_, by omega⟩
       all_goals first | (simp (disch := first | assumption | omega) only [go_sem, hs0, hK1]; done) | (simp (disch := first | assumption | omega) only [go_sem, hs0, hK1]; rfl) | (simp (disch := first | assumption | omega) only [go_sem, hs0, hK1]; simp [slashT]; done) | (simp (disch := first | assumption | omega) only [go_sem, hs0, hK1]; simp [slashT, c1, c2]; done) | (simp [slashT, hs0, hK1]; done)
      ·rintro i e H' ⟨rfl, g1, g3, g4, i1⟩
       have hsi := slashT_le u.path i
       by_cases hi : i < u.path.length
       ·have hix := ix_at hi
        have hxl := f9 _ (List.getElem_mem hi)
        have hst := slashT_take hi
        have hsi2 := slashT_le u.path (i + 1)
        rw [hst] at hsi2
        simp only [List.length_append, List.length_cons, List.length_nil] at hsi2
        generalize u.path[i] = x at hix hxl hst hsi2
        generalize slashT (u.path.take i) = sp at g3 hsi hsi2 hst ⊢
        repeat' first|simp (disch := first | omega | assumption | decide | (simp only [List.length_append,List.length_cons,List.length_nil]; omega)) only [go_sem,hm,hz,ht,hr_,g1,g3,g4,hix,gk,hpl,k16,k18,wdl,bind_some_,map_some_,oneD_fold]|(apply ifP_in<;>intro)
        exact ⟨i + 1, ⟨by rw [hst]; simp, rfl, by omega⟩, by omega⟩
       ·obtain rfl : i = u.path.length := by omega
        rw [List.take_length] at g3 hsi
        generalize slashT u.path = sp at g3 hsi ⊢
        cases bq <;> cases bf
        all_goals
         repeat' first|simp (disch := first | omega | assumption | decide | (simp only [List.length_append,List.length_cons,List.length_nil]; omega)) only [go_sem,hm,hz,ht,hr_,g1,g3,g4,gk,hpl,k16,k18,k19,k20,k21,k22,cond_true,cond_false,wdl,bind_some_,map_some_,oneD_fold]|(apply ifP_in<;>intro)
        all_goals first | (rw [hK1, List.append_assoc]; exact List.prefix_append _ _) | (rw [hK1]; exact List.prefix_append _ _) | (refine ⟨?_, ?_⟩ <;> first | (rw [hs0]; done) | (rw [hs0]; simp; done) | (rw [hs0]; simp [c1, c2]; done) | (rw [hK1, List.append_assoc]; exact List.prefix_append _ _) | (rw [hK1]; exact List.prefix_append _ _)) | (rw [hs0]; simp; done)
     ·obtain ⟨s0, hs0⟩ : ∃ s0, s0 = u.scheme ++ [58] ++ wt ++ u.text := ⟨_, rfl⟩
      have hs0l : s0.length = u.scheme.length + 1 + wt.length + u.text.length := by rw [hs0]; simp; omega
      rw [hwt] at hs0
      repeat' first|simp (disch := first | omega | assumption | decide | (simp only [List.length_append,List.length_cons,List.length_nil]; omega)) only [go_sem,hm,hz,ht,hr_,ho,hpl,k0,k1,k2,k3,k4,k15,k16,k17,k18,k19,k20,k21,k22,hn,htk,Nat.le_refl,if_true,cond_true,cond_false,hle23,c1D,c2D,c1T,c2T,wdl,bind_some_,map_some_,oneD_fold]|(apply ifP_in<;>intro)
      refine rF_use hpr ?_
      rintro _ H2 ⟨rfl, T2, rfl⟩
      have ga : (H ++ [cs] ++ T2)[H.length]? = some cs := by simp
      obtain ⟨K1, hK1⟩ : ∃ K1, K1 = H ++ [cs] ++ T2 := ⟨_, rfl⟩
      have gk : K1[H.length]? = some cs := by rw [hK1]; exact ga
      repeat' first|simp (disch := first | omega | assumption | decide | (simp only [List.length_append,List.length_cons,List.length_nil]; omega)) only [go_sem,hm,hz,ht,hr_,ho,hpl,k0,k1,k2,k3,k4,k15,k16,k17,k18,k19,k20,k21,k22,hn,htk,Nat.le_refl,if_true,cond_true,cond_false,hle23,ga,c3D,c3T,hit,c1D,c2D,c1T,c2T,wdl,bind_some_,map_some_,oneD_fold]|(apply ifP_in<;>intro)
      refine rL_loop (σ := Unit) (fun _ e H' => H' = K1 ∧ e 1 = .ptr H.length 0 ∧ e 3 = .str s0 ∧ e 4 = .i 0) (fun _ => 0) () ?_ ?_
      ·refine ⟨?_, ?_, ?_, ?_⟩
       all_goals first | (simp (disch := first | assumption | omega) only [go_sem, hs0, hK1]; done) | (simp (disch := first | assumption | omega) only [go_sem, hs0, hK1]; rfl) | (simp (disch := first | assumption | omega) only [go_sem, hs0, hK1]; simp; done) | (simp (disch := first | assumption | omega) only [go_sem, hs0, hK1]; simp [c1, c2]; done) | (simp [hs0, hK1]; done)
      ·rintro _ e H' ⟨rfl, g1, g3, g4⟩
       by_cases hi : 0 < u.path.length
       ·cases bq <;> cases bf
        all_goals
         repeat' first|simp (disch := first | omega | assumption | decide | (simp only [List.length_append,List.length_cons,List.length_nil]; omega)) only [go_sem,hm,hz,ht,hr_,g1,g3,g4,gk,hpl,k16,k18,k19,k20,k21,k22,cond_true,cond_false,wdl,bind_some_,map_some_,oneD_fold]|(apply ifP_in<;>intro)
        all_goals first | (rw [hK1, List.append_assoc]; exact List.prefix_append _ _) | (rw [hK1]; exact List.prefix_append _ _) | (refine ⟨?_, ?_⟩ <;> first | (rw [hs0]; done) | (rw [hs0]; simp; done) | (rw [hs0]; simp [c1, c2]; done) | (rw [hK1, List.append_assoc]; exact List.prefix_append _ _) | (rw [hK1]; exact List.prefix_append _ _)) | (rw [hs0]; simp; done)
       ·cases bq <;> cases bf
        all_goals
         repeat' first|simp (disch := first | omega | assumption | decide | (simp only [List.length_append,List.length_cons,List.length_nil]; omega)) only [go_sem,hm,hz,ht,hr_,g1,g3,g4,gk,hpl,k16,k18,k19,k20,k21,k22,cond_true,cond_false,wdl,bind_some_,map_some_,oneD_fold]|(apply ifP_in<;>intro)
        all_goals first | (rw [hK1, List.append_assoc]; exact List.prefix_append _ _) | (rw [hK1]; exact List.prefix_append _ _) | (refine ⟨?_, ?_⟩ <;> first | (rw [hs0]; done) | (rw [hs0]; simp; done) | (rw [hs0]; simp [c1, c2]; done) | (rw [hK1, List.append_assoc]; exact List.prefix_append _ _) | (rw [hK1]; exact List.prefix_append _ _)) | (rw [hs0]; simp; done)
    ·have c3D : decide (u.port ≠ -1) = true := by simp [c3]
     have c3T : (u.port = -1) = False := eq_false c3
     rw [if_neg c3]
     obtain ⟨wt, hwt⟩ : ∃ wt, wt = [47, 47] ++ [] ++ t ++ ([58] ++ it) := ⟨_, rfl⟩
     have hwtl : wt.length ≤ u.user.length + u.pass.length + t.length + 30 := by rw [hwt]; simp; omega
     cases bd
     ·obtain ⟨s0, hs0⟩ : ∃ s0, s0 = u.scheme ++ [58] ++ wt := ⟨_, rfl⟩
      have hs0l : s0.length = u.scheme.length + 1 + wt.length := by rw [hs0]; simp; omega
      rw [hwt] at hs0
      repeat' first|simp (disch := first | omega | assumption | decide | (simp only [List.length_append,List.length_cons,List.length_nil]; omega)) only [go_sem,hm,hz,ht,hr_,ho,hpl,k0,k1,k2,k3,k4,k15,k16,k17,k18,k19,k20,k21,k22,hn,htk,Nat.le_refl,if_true,cond_true,cond_false,hle23,c1D,c2D,c1T,c2T,wdl,bind_some_,map_some_,oneD_fold]|(apply ifP_in<;>intro)
      refine rF_use hpr ?_
      rintro _ H2 ⟨rfl, T2, rfl⟩
      have ga : (H ++ [cs] ++ T2)[H.length]? = some cs := by simp
      obtain ⟨K1, hK1⟩ : ∃ K1, K1 = H ++ [cs] ++ T2 := ⟨_, rfl⟩
      have gk : K1[H.length]? = some cs := by rw [hK1]; exact ga
      repeat' first|simp (disch := first | omega | assumption | decide | (simp only [List.length_append,List.length_cons,List.length_nil]; omega)) only [go_sem,hm,hz,ht,hr_,ho,hpl,k0,k1,k2,k3,k4,k15,k16,k17,k18,k19,k20,k21,k22,hn,htk,Nat.le_refl,if_true,cond_true,cond_false,hle23,ga,c3D,c3T,hit,c1D,c2D,c1T,c2T,wdl,bind_some_,map_some_,oneD_fold]|(apply ifP_in<;>intro)
      refine rL_loop (σ := Nat) (fun i e H' => H' = K1 ∧ e 1 = .ptr H.length 0 ∧ e 3 = .str (s0 ++ slashT (u.path.take i)) ∧ e 4 = .i i ∧ i ≤ u.path.length) (fun i => u.path.length - i) 0 ?_ ?_
      ·refine ⟨?_, ?_, ?_, ?_, by omega⟩
       all_goals first | (simp (disch := first | assumption | omega) only [go_sem, hs0, hK1]; done) | (simp (disch := first | assumption | omega) only [go_sem, hs0, hK1]; rfl) | (simp (disch := first | assumption | omega) only [go_sem, hs0, hK1]; simp [slashT]; done) | (simp (disch := first | assumption | omega) only [go_sem, hs0, hK1]; simp [slashT, c1, c2]; done) | (simp [slashT, hs0, hK1]; done)
      ·rintro i e H' ⟨rfl, g1, g3, g4, i1⟩
       have hsi := slashT_le u.path i
       by_cases hi : i < u.path.length
       ·have hix := ix_at hi
        have hxl := f9 _ (List.getElem_mem hi)
        have hst := slashT_take hi
        have hsi2 := slashT_le u.path (i + 1)
        rw [hst] at hsi2
        simp only [List.length_append, List.length_cons, List.length_nil] at hsi2
        generalize u.path[i] = x at hix hxl hst hsi2
        generalize slashT (u.path.take i) = sp at g3 hsi hsi2 hst ⊢
        repeat' first|simp (disch := first | omega | assumption | decide | (simp only [List.length_append,List.length_cons,List.length_nil]; omega)) only [go_sem,hm,hz,ht,hr_,g1,g3,g4,hix,gk,hpl,k16,k18,wdl,bind_some_,map_some_,oneD_fold]|(apply ifP_in<;>intro)
        exact ⟨i + 1, ⟨by rw [hst]; simp, rfl, by omega⟩, by omega⟩
       ·obtain rfl : i = u.path.length := by omega
        rw [List.take_length] at g3 hsi
        generalize slashT u.path = sp at g3 hsi ⊢
        cases bq <;> cases bf
        all_goals
         repeat' first|simp (disch := first | omega | assumption | decide | (simp only [List.length_append,List.length_cons,List.length_nil]; omega)) only [go_sem,hm,hz,ht,hr_,g1,g3,g4,gk,hpl,k16,k18,k19,k20,k21,k22,cond_true,cond_false,wdl,bind_some_,map_some_,oneD_fold]|(apply ifP_in<;>intro)
        all_goals first | (rw [hK1, List.append_assoc]; exact List.prefix_append _ _) | (rw [hK1]; exact List.prefix_append _ _) | (refine ⟨?_, ?_⟩ <;> first | (rw [hs0]; done) | (rw [hs0]; simp; done) | (rw [hs0]; simp [c1, c2]; done) | (rw [hK1, List.append_assoc]; exact List.prefix_append _ _) | (rw [hK1]; exact List.prefix_append _ _)) | (rw [hs0]; simp; done)
     ·obtain ⟨s0, hs0⟩ : ∃ s0, s0 = u.scheme ++ [58] ++ wt ++ u.text := ⟨_, rfl⟩
      have hs0l : s0.length = u.scheme.length + 1 + wt.length + u.text.length := by rw [hs0]; simp; omega
      rw [hwt] at hs0
      repeat' first|simp (disch := first | omega | assumption | decide | (simp only [List.length_append,List.length_cons,List.length_nil]; omega)) only [go_sem,hm,hz,ht,hr_,ho,hpl,k0,k1,k2,k3,k4,k15,k16,k17,k18,k19,k20,k21,k22,hn,htk,Nat.le_refl,if_true,cond_true,cond_false,hle23,c1D,c2D,c1T,c2T,wdl,bind_some_,map_some_,oneD_fold]|(apply ifP_in<;>intro)
      refine rF_use hpr ?_
      rintro _ H2 ⟨rfl, T2, rfl⟩
      have ga : (H ++ [cs] ++ T2)[H.length]? = some cs := by simp
      obtain ⟨K1, hK1⟩ : ∃ K1, K1 = H ++ [cs] ++ T2 := ⟨_, rfl⟩
      have gk : K1[H.length]? = some cs := by rw [hK1]; exact ga
      repeat' first|simp (disch := first | omega | assumption | decide | (simp only [List.length_append,List.length_cons,List.length_nil]; omega)) only [go_sem,hm,hz,ht,hr_,ho,hpl,k0,k1,k2,k3,k4,k15,k16,k17,k18,k19,k20,k21,k22,hn,htk,Nat.le_refl,if_true,cond_true,cond_false,hle23,ga,c3D,c3T,hit,c1D,c2D,c1T,c2T,wdl,bind_some_,map_some_,oneD_fold]|(apply ifP_in<;>intro)
      refine rL_loop (σ := Unit) (fun _ e H' => H' = K1 ∧ e 1 = .ptr H.length 0 ∧ e 3 = .str s0 ∧ e 4 = .i 0) (fun _ => 0) () ?_ ?_
      ·refine ⟨?_, ?_, ?_, ?_⟩
       all_goals first | (simp (disch := first | assumption | omega) only [go_sem, hs0, hK1]; done) | (simp (disch := first | assumption | omega) only [go_sem, hs0, hK1]; rfl) | (simp (disch := first | assumption | omega) only [go_sem, hs0, hK1]; simp; done) | (simp (disch := first | assumption | omega) only [go_sem, hs0, hK1]; simp [c1, c2]; done) | (simp [hs0, hK1]; done)
      ·rintro _ e H' ⟨rfl, g1, g3, g4⟩
       by_cases hi : 0 < u.path.length
       ·cases bq <;> cases bf
        all_goals
         repeat' first|simp (disch := first | omega | assumption | decide | (simp only [List.length_append,List.length_cons,List.length_nil]; omega)) only [go_sem,hm,hz,ht,hr_,g1,g3,g4,gk,hpl,k16,k18,k19,k20,k21,k22,cond_true,cond_false,wdl,bind_some_,map_some_,oneD_fold]|(apply ifP_in<;>intro)
        all_goals first | (rw [hK1, List.append_assoc]; exact List.prefix_append _ _) | (rw [hK1]; exact List.prefix_append _ _) | (refine ⟨?_, ?_⟩ <;> first | (rw [hs0]; done) | (rw [hs0]; simp; done) | (rw [hs0]; simp [c1, c2]; done) | (rw [hK1, List.append_assoc]; exact List.prefix_append _ _) | (rw [hK1]; exact List.prefix_append _ _)) | (rw [hs0]; simp; done)
       ·cases bq <;> cases bf
        all_goals
         repeat' first|simp (disch := first | omega | assumption | decide | (simp only [List.length_append,List.length_cons,List.length_nil]; omega)) only [go_sem,hm,hz,ht,hr_,g1,g3,g4,gk,hpl,k16,k18,k19,k20,k21,k22,cond_true,cond_false,wdl,bind_some_,map_some_,oneD_fold]|(apply ifP_in<;>intro)
        all_goals first | (rw [hK1, List.append_assoc]; exact List.prefix_append _ _) | (rw [hK1]; exact List.prefix_append _ _) | (refine ⟨?_, ?_⟩ <;> first | (rw [hs0]; done) | (rw [hs0]; simp; done) | (rw [hs0]; simp [c1, c2]; done) | (rw [hK1, List.append_assoc]; exact List.prefix_append _ _) | (rw [hK1]; exact List.prefix_append _ _)) | (rw [hs0]; simp; done)
   ·have c2D : decide (u.pass ≠ []) = true := by simp [c2]
    have c2T : (u.pass = []) = False := eq_false c2
    rw [if_neg (fun h => c2 h.2), if_neg c2]
    by_cases c3 : u.port = -1
    ·have c3D : decide (u.port ≠ -1) = false := by simp [c3]
     have c3T : (u.port = -1) = True := eq_true c3
     rw [if_pos c3]
     obtain ⟨wt, hwt⟩ : ∃ wt, wt = [47, 47] ++ (u.user ++ ([58] ++ u.pass) ++ [64]) ++ t ++ [] := ⟨_, rfl⟩
     have hwtl : wt.length ≤ u.user.length + u.pass.length + t.length + 30 := by rw [hwt]; simp; omega
     cases bd
     ·obtain ⟨s0, hs0⟩ : ∃ s0, s0 = u.scheme ++ [58] ++ wt := ⟨_, rfl⟩
      have hs0l : s0.length = u.scheme.length + 1 + wt.length := by rw [hs0]; simp; omega
      rw [hwt] at hs0
      repeat' first|simp (disch := first | omega | assumption | decide | (simp only [List.length_append,List.length_cons,List.length_nil]; omega)) only [go_sem,hm,hz,ht,hr_,ho,hpl,k0,k1,k2,k3,k4,k15,k16,k17,k18,k19,k20,k21,k22,hn,htk,Nat.le_refl,if_true,cond_true,cond_false,hle23,c1D,c2D,c1T,c2T,wdl,bind_some_,map_some_,oneD_fold]|(apply ifP_in<;>intro)
      refine rF_use hpr ?_
      rintro _ H2 ⟨rfl, T2, rfl⟩
      have ga : (H ++ [cs] ++ T2)[H.length]? = some cs := by simp
      obtain ⟨K1, hK1⟩ : ∃ K1, K1 = H ++ [cs] ++ T2 := ⟨_, rfl⟩
      have gk : K1[H.length]? = some cs := by rw [hK1]; exact ga
      repeat' first|simp (disch := first | omega | assumption | decide | (simp only [List.length_append,List.length_cons,List.length_nil]; omega)) only [go_sem,hm,hz,ht,hr_,ho,hpl,k0,k1,k2,k3,k4,k15,k16,k17,k18,k19,k20,k21,k22,hn,htk,Nat.le_refl,if_true,cond_true,cond_false,hle23,ga,c3D,c3T,hit,c1D,c2D,c1T,c2T,wdl,bind_some_,map_some_,oneD_fold]|(apply ifP_in<;>intro)
      refine rL_loop (σ := Nat) (fun i e H' => H' = K1 ∧ e 1 = .ptr H.length 0 ∧ e 3 = .str (s0 ++ slashT (u.path.take i)) ∧ e 4 = .i i ∧ i ≤ u.path.length) (fun i => u.path.length - i) 0 ?_ ?_
      ·refine ⟨?_, ?_, ?_, ?_, by omega⟩
       all_goals first | (simp (disch := first | assumption | omega) only [go_sem, hs0, hK1]; done) | (simp (disch := first | assumption | omega) only [go_sem, hs0, hK1]; rfl) | (simp (disch := first | assumption | omega) only [go_sem, hs0, hK1]; simp [slashT]; done) | (simp (disch := first | assumption | omega) only [go_sem, hs0, hK1]; simp [slashT, c1, c2]; done) | (simp [slashT, hs0, hK1]; done)
      ·rintro i e H' ⟨rfl, g1, g3, g4, i1⟩
       have hsi := slashT_le u.path i
       by_cases hi : i < u.path.length
       ·have hix := ix_at hi
        have hxl := f9 _ (List.getElem_mem hi)
        have hst := slashT_take hi
        have hsi2 := slashT_le u.path (i + 1)
        rw [hst] at hsi2
        simp only [List.length_append, List.length_cons, List.length_nil] at hsi2
        generalize u.path[i] = x at hix hxl hst hsi2
        generalize slashT (u.path.take i) = sp at g3 hsi hsi2 hst ⊢
        repeat' first|simp (disch := first | omega | assumption | decide | (simp only [List.length_append,List.length_cons,List.length_nil]; omega)) only [go_sem,hm,hz,ht,hr_,g1,g3,g4,hix,gk,hpl,k16,k18,wdl,bind_some_,map_some_,oneD_fold]|(apply ifP_in<;>intro)
        exact ⟨i + 1, ⟨by rw [hst]; simp, rfl, by omega⟩, by omega⟩
       ·obtain rfl : i = u.path.length := by omega
        rw [List.take_length] at g3 hsi
        generalize slashT u.path = sp at g3 hsi ⊢
        cases bq <;> cases bf
        all_goals
         repeat' first|simp (disch := first | omega | assumption | decide | (simp only [List.length_append,List.length_cons,List.length_nil]; omega)) only [go_sem,hm,hz,ht,hr_,g1,g3,g4,gk,hpl,k16,k18,k19,k20,k21,k22,cond_true,cond_false,wdl,bind_some_,map_some_,oneD_fold]|(apply ifP_in<;>intro)
        all_goals first | (rw [hK1, List.append_assoc]; exact List.prefix_append _ _) | (rw [hK1]; exact List.prefix_append _ _) | (refine ⟨?_, ?_⟩ <;> first | (rw [hs0]; done) | (rw [hs0]; simp; done) | (rw [hs0]; simp [c1, c2]; done) | (rw [hK1, List.append_assoc]; exact List.prefix_append _ _) | (rw [hK1]; exact List.prefix_append _ _)) | (rw [hs0]; simp; done)
     ·obtain ⟨s0, hs0⟩ : ∃ s0, s0 = u.scheme ++ [58] ++ wt ++ u.text := ⟨_, rfl⟩
      have hs0l : s0.length = u.scheme.length + 1 + wt.length + u.text.length := by rw [hs0]; simp; omega
      rw [hwt] at hs0
      repeat' first|simp (disch := first | omega | assumption | decide | (simp only [List.length_append,List.length_cons,List.length_nil]; omega)) only [go_sem,hm,hz,ht,hr_,ho,hpl,k0,k1,k2,k3,k4,k15,k16,k17,k18,k19,k20,k21,k22,hn,htk,Nat.le_refl,if_true,cond_true,cond_false,hle23,c1D,c2D,c1T,c2T,wdl,bind_some_,map_some_,oneD_fold]|(apply ifP_in<;>intro)
      refine rF_use hpr ?_
      rintro _ H2 ⟨rfl, T2, rfl⟩
      have ga : (H ++ [cs] ++ T2)[H.length]? = some cs := by simp
      obtain ⟨K1, hK1⟩ : ∃ K1, K1 = H ++ [cs] ++ T2 := ⟨_, rfl⟩
      have gk : K1[H.length]? = some cs := by rw [hK1]; exact ga
      repeat' first|simp (disch := first | omega | assumption | decide | (simp only [List.length_append,List.length_cons,List.length_nil]; omega)) only [go_sem,hm,hz,ht,hr_,ho,hpl,k0,k1,k2,k3,k4,k15,k16,k17,k18,k19,k20,k21,k22,hn,htk,Nat.le_refl,if_true,cond_true,cond_false,hle23,ga,c3D,c3T,hit,c1D,c2D,c1T,c2T,wdl,bind_some_,map_some_,oneD_fold]|(apply ifP_in<;>intro)
      refine rL_loop (σ := Unit) (fun _ e H' => H' = K1 ∧ e 1 = .ptr H.length 0 ∧ e 3 = .str s0 ∧ e 4 = .i 0) (fun _ => 0) () ?_ ?_
      ·refine ⟨?_, ?_, ?_, ?_⟩
       all_goals first | (simp (disch := first | assumption | omega) only [go_sem, hs0, hK1]; done) | (simp (disch := first | assumption | omega) only [go_sem, hs0, hK1]; rfl) | (simp (disch := first | assumption | omega) only [go_sem, hs0, hK1]; simp; done) | (simp (disch := first | assumption | omega) only [go_sem, hs0, hK1]; simp [c1, c2]; done) | (simp [hs0, hK1]; done)
      ·rintro _ e H' ⟨rfl, g1, g3, g4⟩
       by_cases hi : 0 < u.path.length
       ·cases bq <;> cases bf
        all_goals
         repeat' first|simp (disch := first | omega | assumption | decide | (simp only [List.length_append,List.length_cons,List.length_nil]; omega)) only [go_sem,hm,hz,ht,hr_,g1,g3,g4,gk,hpl,k16,k18,k19,k20,k21,k22,cond_true,cond_false,wdl,bind_some_,map_some_,oneD_fold]|(apply ifP_in<;>intro)
        all_goals first | (rw [hK1, List.append_assoc]; exact List.prefix_append _ _) | (rw [hK1]; exact List.prefix_append _ _) | (refine ⟨?_, ?_⟩ <;> first | (rw [hs0]; done) | (rw [hs0]; simp; done) | (rw [hs0]; simp [c1, c2]; done) | (rw [hK1, List.append_assoc]; exact List.prefix_append _ _) | (rw [hK1]; exact List.prefix_append _ _)) | (rw [hs0]; simp; done)
       ·cases bq <;> cases bf
        all_goals
         repeat' first|simp (disch := first | omega | assumption | decide | (simp only [List.length_append,List.length_cons,List.length_nil]; omega)) only [go_sem,hm,hz,ht,hr_,g1,g3,g4,gk,hpl,k16,k18,k19,k20,k21,k22,cond_true,cond_false,wdl,bind_some_,map_some_,oneD_fold]|(apply ifP_in<;>intro)
        all_goals first | (rw [hK1, List.append_assoc]; exact List.prefix_append _ _) | (rw [hK1]; exact List.prefix_append _ _) | (refine ⟨?_, ?_⟩ <;> first | (rw [hs0]; done) | (rw [hs0]; simp; done) | (rw [hs0]; simp [c1, c2]; done) | (rw [hK1, List.append_assoc]; exact List.prefix_append _ _) | (rw [hK1]; exact List.prefix_append _ _)) | (rw [hs0]; simp; done)
    ·have c3D : decide (u.port ≠ -1) = true := by simp [c3]
     have c3T : (u.port = -1) = False := eq_false c3
     rw [if_neg c3]
     obtain ⟨wt, hwt⟩ : ∃ wt, wt = [47, 47] ++ (u.user ++ ([58] ++ u.pass) ++ [64]) ++ t ++ ([58] ++ it) := ⟨_, rfl⟩
     have hwtl : wt.length ≤ u.user.length + u.pass.length + t.length + 30 := by rw [hwt]; simp; omega
     cases bd
     ·obtain ⟨s0, hs0⟩ : ∃ s0, s0 = u.scheme ++ [58] ++ wt := ⟨_, rfl⟩
      have hs0l : s0.length = u.scheme.length + 1 + wt.length := by rw [hs0]; simp; omega
      rw [hwt] at hs0
      repeat' first|simp (disch := first | omega | assumption | decide | (simp only [List.length_append,List.length_cons,List.length_nil]; omega)) only [go_sem,hm,hz,ht,hr_,ho,hpl,k0,k1,k2,k3,k4,k15,k16,k17,k18,k19,k20,k21,k22,hn,htk,Nat.le_refl,if_true,cond_true,cond_false,hle23,c1D,c2D,c1T,c2T,wdl,bind_some_,map_some_,oneD_fold]|(apply ifP_in<;>intro)
      refine rF_use hpr ?_
      rintro _ H2 ⟨rfl, T2, rfl⟩
      have ga : (H ++ [cs] ++ T2)[H.length]? = some cs := by simp
      obtain ⟨K1, hK1⟩ : ∃ K1, K1 = H ++ [cs] ++ T2 := ⟨_, rfl⟩
      have gk : K1[H.length]? = some cs := by rw [hK1]; exact ga
      repeat' first|simp (disch := first | omega | assumption | decide | (simp only [List.length_append,List.length_cons,List.length_nil]; omega)) only [go_sem,hm,hz,ht,hr_,ho,hpl,k0,k1,k2,k3,k4,k15,k16,k17,k18,k19,k20,k21,k22,hn,htk,Nat.le_refl,if_true,cond_true,cond_false,hle23,ga,c3D,c3T,hit,c1D,c2D,c1T,c2T,wdl,bind_some_,map_some_,oneD_fold]|(apply ifP_in<;>intro)
      refine rL_loop (σ := Nat) (fun i e H' => H' = K1 ∧ e 1 = .ptr H.length 0 ∧ e 3 = .str (s0 ++ slashT (u.path.take i)) ∧ e 4 = .i i ∧ i ≤ u.path.length) (fun i => u.path.length - i) 0 ?_ ?_
      ·refine ⟨?_, ?_, ?_, ?_, by omega⟩
       all_goals first | (simp (disch := first | assumption | omega) only [go_sem, hs0, hK1]; done) | (simp (disch := first | assumption | omega) only [go_sem, hs0, hK1]; rfl) | (simp (disch := first | assumption | omega) only [go_sem, hs0, hK1]; simp [slashT]; done) | (simp (disch := first | assumption | omega) only [go_sem, hs0, hK1]; simp [slashT, c1, c2]; done) | (simp [slashT, hs0, hK1]; done)
      ·rintro i e H' ⟨rfl, g1, g3, g4, i1⟩
       have hsi := slashT_le u.path i
       by_cases hi : i < u.path.length
       ·have hix := ix_at hi
        have hxl := f9 _ (List.getElem_mem hi)
        have hst := slashT_take hi
        have hsi2 := slashT_le u.path (i + 1)
        rw [hst] at hsi2
        simp only [List.length_append, List.length_cons, List.length_nil] at hsi2
        generalize u.path[i] = x at hix hxl hst hsi2
        generalize slashT (u.path.take i) = sp at g3 hsi hsi2 hst ⊢
        repeat' first|simp (disch := first | omega | assumption | decide | (simp only [List.length_append,List.length_cons,List.length_nil]; omega)) only [go_sem,hm,hz,ht,hr_,g1,g3,g4,hix,gk,hpl,k16,k18,wdl,bind_some_,map_some_,oneD_fold]|(apply ifP_in<;>intro)
        exact ⟨i + 1, ⟨by rw [hst]; simp, rfl, by omega⟩, by omega⟩
       ·obtain rfl : i = u.path.length := by omega
        rw [List.take_length] at g3 hsi
        generalize slashT u.path = sp at g3 hsi ⊢
        cases bq <;> cases bf
        all_goals
         repeat' first|simp (disch := first | omega | assumption | decide | (simp only [List.length_append,List.length_cons,List.length_nil]; omega)) only [go_sem,hm,hz,ht,hr_,g1,g3,g4,gk,hpl,k16,k18,k19,k20,k21,k22,cond_true,cond_false,wdl,bind_some_,map_some_,oneD_fold]|(apply ifP_in<;>intro)
        all_goals first | (rw [hK1, List.append_assoc]; exact List.prefix_append _ _) | (rw [hK1]; exact List.prefix_append _ _) | (refine ⟨?_, ?_⟩ <;> first | (rw [hs0]; done) | (rw [hs0]; simp; done) | (rw [hs0]; simp [c1, c2]; done) | (rw [hK1, List.append_assoc]; exact List.prefix_append _ _) | (rw [hK1]; exact List.prefix_append _ _)) | (rw [hs0]; simp; done)
     ·obtain ⟨s0, hs0⟩ : ∃ s0, s0 = u.scheme ++ [58] ++ wt ++ u.text := ⟨_, rfl⟩
      have hs0l : s0.length = u.scheme.length + 1 + wt.length + u.text.length := by rw [hs0]; simp; omega
      rw [hwt] at hs0
      repeat' first|simp (disch := first | omega | assumption | decide | (simp only [List.length_append,List.length_cons,List.length_nil]; omega)) only [go_sem,hm,hz,ht,hr_,ho,hpl,k0,k1,k2,k3,k4,k15,k16,k17,k18,k19,k20,k21,k22,hn,htk,Nat.le_refl,if_true,cond_true,cond_false,hle23,c1D,c2D,c1T,c2T,wdl,bind_some_,map_some_,oneD_fold]|(apply ifP_in<;>intro)
      refine rF_use hpr ?_
      rintro _ H2 ⟨rfl, T2, rfl⟩
      have ga : (H ++ [cs] ++ T2)[H.length]? = some cs := by simp
      obtain ⟨K1, hK1⟩ : ∃ K1, K1 = H ++ [cs] ++ T2 := ⟨_, rfl⟩
      have gk : K1[H.length]? = some cs := by rw [hK1]; exact ga
      repeat' first|simp (disch := first | omega | assumption | decide | (simp only [List.length_append,List.length_cons,List.length_nil]; omega)) only [go_sem,hm,hz,ht,hr_,ho,hpl,k0,k1,k2,k3,k4,k15,k16,k17,k18,k19,k20,k21,k22,hn,htk,Nat.le_refl,if_true,cond_true,cond_false,hle23,ga,c3D,c3T,hit,c1D,c2D,c1T,c2T,wdl,bind_some_,map_some_,oneD_fold]|(apply ifP_in<;>intro)
      refine rL_loop (σ := Unit) (fun _ e H' => H' = K1 ∧ e 1 = .ptr H.length 0 ∧ e 3 = .str s0 ∧ e 4 = .i 0) (fun _ => 0) () ?_ ?_
      ·refine ⟨?_, ?_, ?_, ?_⟩
       all_goals first | (simp (disch := first | assumption | omega) only [go_sem, hs0, hK1]; done) | (simp (disch := first | assumption | omega) only [go_sem, hs0, hK1]; rfl) | (simp (disch := first | assumption | omega) only [go_sem, hs0, hK1]; simp; done) | (simp (disch := first | assumption | omega) only [go_sem, hs0, hK1]; simp [c1, c2]; done) | (simp [hs0, hK1]; done)
      ·rintro _ e H' ⟨rfl, g1, g3, g4⟩
       by_cases hi : 0 < u.path.length
       ·cases bq <;> cases bf
        all_goals
         repeat' first|simp (disch := first | omega | assumption | decide | (simp only [List.length_append,List.length_cons,List.length_nil]; omega)) only [go_sem,hm,hz,ht,hr_,g1,g3,g4,gk,hpl,k16,k18,k19,k20,k21,k22,cond_true,cond_false,wdl,bind_some_,map_some_,oneD_fold]|(apply ifP_in<;>intro)
        all_goals first | (rw [hK1, List.append_assoc]; exact List.prefix_append _ _) | (rw [hK1]; exact List.prefix_append _ _) | (refine ⟨?_, ?_⟩ <;> first | (rw [hs0]; done) | (rw [hs0]; simp; done) | (rw [hs0]; simp [c1, c2]; done) | (rw [hK1, List.append_assoc]; exact List.prefix_append _ _) | (rw [hK1]; exact List.prefix_append _ _)) | (rw [hs0]; simp; done)
       ·cases bq <;> cases bf
        all_goals
         repeat' first|simp (disch := first | omega | assumption | decide | (simp only [List.length_append,List.length_cons,List.length_nil]; omega)) only [go_sem,hm,hz,ht,hr_,g1,g3,g4,gk,hpl,k16,k18,k19,k20,k21,k22,cond_true,cond_false,wdl,bind_some_,map_some_,oneD_fold]|(apply ifP_in<;>intro)
        all_goals first | (rw [hK1, List.append_assoc]; exact List.prefix_append _ _) | (rw [hK1]; exact List.prefix_append _ _) | (refine ⟨?_, ?_⟩ <;> first | (rw [hs0]; done) | (rw [hs0]; simp; done) | (rw [hs0]; simp [c1, c2]; done) | (rw [hK1, List.append_assoc]; exact List.prefix_append _ _) | (rw [hK1]; exact List.prefix_append _ _)) | (rw [hs0]; simp; done)
  ·have c1D : decide (u.user ≠ []) = true := by simp [c1]
   have c1T : (u.user = []) = False := eq_false c1
   by_cases c2 : u.pass = []
   ·have c2D : decide (u.pass ≠ []) = false := by simp [c2]
    have c2T : (u.pass = []) = True := eq_true c2
    rw [if_neg (fun h => c1 h.1), if_pos c2]
    by_cases c3 : u.port = -1
    ·have c3D : decide (u.port ≠ -1) = false := by simp [c3]
     have c3T : (u.port = -1) = True := eq_true c3
     rw [if_pos c3]
     obtain ⟨wt, hwt⟩ : ∃ wt, wt = [47, 47] ++ (u.user ++ [] ++ [64]) ++ t ++ [] := ⟨_, rfl⟩
     have hwtl : wt.length ≤ u.user.length + u.pass.length + t.length + 30 := by rw [hwt]; simp; omega
     cases bd
     ·obtain ⟨s0, hs0⟩ : ∃ s0, s0 = u.scheme ++ [58] ++ wt := ⟨_, rfl⟩
      have hs0l : s0.length = u.scheme.length + 1 + wt.length := by rw [hs0]; simp; omega
      rw [hwt] at hs0
      repeat' first|simp (disch := first | omega | assumption | decide | (simp only [List.length_append,List.length_cons,List.length_nil]; omega)) only [go_sem,hm,hz,ht,hr_,ho,hpl,k0,k1,k2,k3,k4,k15,k16,k17,k18,k19,k20,k21,k22,hn,htk,Nat.le_refl,if_true,cond_true,cond_false,hle23,c1D,c2D,c1T,c2T,wdl,bind_some_,map_some_,oneD_fold]|(apply ifP_in<;>intro)
      refine rF_use hpr ?_
      rintro _ H2 ⟨rfl, T2, rfl⟩
      have ga : (H ++ [cs] ++ T2)[H.length]? = some cs := by simp
      obtain ⟨K1, hK1⟩ : ∃ K1, K1 = H ++ [cs] ++ T2 := ⟨_, rfl⟩
      have gk : K1[H.length]? = some cs := by rw [hK1]; exact ga
      repeat' first|simp (disch := first | omega | assumption | decide | (simp only [List.length_append,List.length_cons,List.length_nil]; omega)) only [go_sem,hm,hz,ht,hr_,ho,hpl,k0,k1,k2,k3,k4,k15,k16,k17,k18,k19,k20,k21,k22,hn,htk,Nat.le_refl,if_true,cond_true,cond_false,hle23,ga,c3D,c3T,hit,c1D,c2D,c1T,c2T,wdl,bind_some_,map_some_,oneD_fold]|(apply ifP_in<;>intro)
      refine rL_loop (σ := Nat) (fun i e H' => H' = K1 ∧ e 1 = .ptr H.length 0 ∧ e 3 = .str (s0 ++ slashT (u.path.take i)) ∧ e 4 = .i i ∧ i ≤ u.path.length) (fun i => u.path.length - i) 0 ?_ ?_
      ·refine ⟨?_, ?_, ?_, ?_, by omega⟩
       all_goals first | (simp (disch := first | assumption | omega) only [go_sem, hs0, hK1]; done) | (simp (disch := first | assumption | omega) only [go_sem, hs0, hK1]; rfl) | (simp (disch := first | assumption | omega) only [go_sem, hs0, hK1]; simp [slashT]; done) | (simp (disch := first | assumption | omega) only [go_sem, hs0, hK1]; simp [slashT, c1, c2]; done) | (simp [slashT, hs0, hK1]; done)
      ·rintro i e H' ⟨rfl, g1, g3, g4, i1⟩
       have hsi := slashT_le u.path i
       by_cases hi : i < u.path.length
       ·have hix := ix_at hi
        have hxl := f9 _ (List.getElem_mem hi)
        have hst := slashT_take hi
        have hsi2 := slashT_le u.path (i + 1)
        rw [hst] at hsi2
        simp only [List.length_append, List.length_cons, List.length_nil] at hsi2
        generalize u.path[i] = x at hix hxl hst hsi2
        generalize slashT (u.path.take i) = sp at g3 hsi hsi2 hst ⊢
        repeat' first|simp (disch := first | omega | assumption | decide | (simp only [List.length_append,List.length_cons,List.length_nil]; omega)) only [go_sem,hm,hz,ht,hr_,g1,g3,g4,hix,gk,hpl,k16,k18,wdl,bind_some_,map_some_,oneD_fold]|(apply ifP_in<;>intro)
        exact ⟨i + 1, ⟨by rw [hst]; simp, rfl, by omega⟩, by omega⟩
       ·obtain rfl : i = u.path.length := by omega
        rw [List.take_length] at g3 hsi
        generalize slashT u.path = sp at g3 hsi ⊢
        cases bq <;> cases bf
        all_goals
         repeat' first|simp (disch := first | omega | assumption | decide | (simp only [List.length_append,List.length_cons,List.length_nil]; omega)) only [go_sem,hm,hz,ht,hr_,g1,g3,g4,gk,hpl,k16,k18,k19,k20,k21,k22,cond_true,cond_false,wdl,bind_some_,map_some_,oneD_fold]|(apply ifP_in<;>intro)
        all_goals first | (rw [hK1, List.append_assoc]; exact List.prefix_append _ _) | (rw [hK1]; exact List.prefix_append _ _) | (refine ⟨?_, ?_⟩ <;> first | (rw [hs0]; done) | (rw [hs0]; simp; done) | (rw [hs0]; simp [c1, c2]; done) | (rw [hK1, List.append_assoc]; exact List.prefix_append _ _) | (rw [hK1]; exact List.prefix_append _ _)) | (rw [hs0]; simp; done)
     ·obtain ⟨s0, hs0⟩ : ∃ s0, s0 = u.scheme ++ [58] ++ wt ++ u.text := ⟨_, rfl⟩
      have hs0l : s0.length = u.scheme.length + 1 + wt.length + u.text.length := by rw [hs0]; simp; omega
      rw [hwt] at hs0
      repeat' first|simp (disch := first | omega | assumption | decide | (simp only [List.length_append,List.length_cons,List.length_nil]; omega)) only [go_sem,hm,hz,ht,hr_,ho,hpl,k0,k1,k2,k3,k4,k15,k16,k17,k18,k19,k20,k21,k22,hn,htk,Nat.le_refl,if_true,cond_true,cond_false,hle23,c1D,c2D,c1T,c2T,wdl,bind_some_,map_some_,oneD_fold]|(apply ifP_in<;>intro)
      refine rF_use hpr ?_
      rintro _ H2 ⟨rfl, T2, rfl⟩
      have ga : (H ++ [cs] ++ T2)[H.length]? = some cs := by simp
      obtain ⟨K1, hK1⟩ : ∃ K1, K1 = H ++ [cs] ++ T2 := ⟨_, rfl⟩
      have gk : K1[H.length]? = some cs := by rw [hK1]; exact ga
      repeat' first|simp (disch := first | omega | assumption | decide | (simp only [List.length_append,List.length_cons,List.length_nil]; omega)) only [go_sem,hm,hz,ht,hr_,ho,hpl,k0,k1,k2,k3,k4,k15,k16,k17,k18,k19,k20,k21,k22,hn,htk,Nat.le_refl,if_true,cond_true,cond_false,hle23,ga,c3D,c3T,hit,c1D,c2D,c1T,c2T,wdl,bind_some_,map_some_,oneD_fold]|(apply ifP_in<;>intro)
      refine rL_loop (σ := Unit) (fun _ e H' => H' = K1 ∧ e 1 = .ptr H.length 0 ∧ e 3 = .str s0 ∧ e 4 = .i 0) (fun _ => 0) () ?_ ?_
      ·refine ⟨?_, ?_, ?_, ?_⟩
       all_goals first | (simp (disch := first | assumption | omega) only [go_sem, hs0, hK1]; done) | (simp (disch := first | assumption | omega) only [go_sem, hs0, hK1]; rfl) | (simp (disch := first | assumption | omega) only [go_sem, hs0, hK1]; simp; done) | (simp (disch := first | assumption | omega) only [go_sem, hs0, hK1]; simp [c1, c2]; done) | (simp [hs0, hK1]; done)
      ·rintro _ e H' ⟨rfl, g1, g3, g4⟩
       by_cases hi : 0 < u.path.length
       ·cases bq <;> cases bf
        all_goals
         repeat' first|simp (disch := first | omega | assumption | decide | (simp only [List.length_append,List.length_cons,List.length_nil]; omega)) only [go_sem,hm,hz,ht,hr_,g1,g3,g4,gk,hpl,k16,k18,k19,k20,k21,k22,cond_true,cond_false,wdl,bind_some_,map_some_,oneD_fold]|(apply ifP_in<;>intro)
        all_goals first | (rw [hK1, List.append_assoc]; exact List.prefix_append _ _) | (rw [hK1]; exact List.prefix_append _ _) | (refine ⟨?_, ?_⟩ <;> first | (rw [hs0]; done) | (rw [hs0]; simp; done) | (rw [hs0]; simp [c1, c2]; done) | (rw [hK1, List.append_assoc]; exact List.prefix_append _ _) | (rw [hK1]; exact List.prefix_append _ _)) | (rw [hs0]; simp; done)
       ·cases bq <;> cases bf
        all_goals
         repeat' first|simp (disch := first | omega | assumption | decide | (simp only [List.length_append,List.length_cons,List.length_nil]; omega)) only [go_sem,hm,hz,ht,hr_,g1,g3,g4,gk,hpl,k16,k18,k19,k20,k21,k22,cond_true,cond_false,wdl,bind_some_,map_some_,oneD_fold]|(apply ifP_in<;>intro)
        all_goals first | (rw [hK1, List.append_assoc]; exact List.prefix_append _ _) | (rw [hK1]; exact List.prefix_append _ _) | (refine ⟨?_, ?_⟩ <;> first | (rw [hs0]; done) | (rw [hs0]; simp; done) | (rw [hs0]; simp [c1, c2]; done) | (rw [hK1, List.append_assoc]; exact List.prefix_append _ _) | (rw [hK1]; exact List.prefix_append _ _)) | (rw [hs0]; simp; done)
    ·have c3D : decide (u.port ≠ -1) = true := by simp [c3]
     have c3T : (u.port = -1) = False := eq_false c3
     rw [if_neg c3]
     obtain ⟨wt, hwt⟩ : ∃ wt, wt = [47, 47] ++ (u.user ++ [] ++ [64]) ++ t ++ ([58] ++ it) := ⟨_, rfl⟩
     have hwtl : wt.length ≤ u.user.length + u.pass.length + t.length + 30 := by rw [hwt]; simp; omega
     cases bd
     ·obtain ⟨s0, hs0⟩ : ∃ s0, s0 = u.scheme ++ [58] ++ wt := ⟨_, rfl⟩
      have hs0l : s0.length = u.scheme.length + 1 + wt.length := by rw [hs0]; simp; omega
      rw [hwt] at hs0
      repeat' first|simp (disch := first | omega | assumption | decide | (simp only [List.length_append,List.length_cons,List.length_nil]; omega)) only [go_sem,hm,hz,ht,hr_,ho,hpl,k0,k1,k2,k3,k4,k15,k16,k17,k18,k19,k20,k21,k22,hn,htk,Nat.le_refl,if_true,cond_true,cond_false,hle23,c1D,c2D,c1T,c2T,wdl,bind_some_,map_some_,oneD_fold]|(apply ifP_in<;>intro)
      refine rF_use hpr ?_
      rintro _ H2 ⟨rfl, T2, rfl⟩
      have ga : (H ++ [cs] ++ T2)[H.length]? = some cs := by simp
      obtain ⟨K1, hK1⟩ : ∃ K1, K1 = H ++ [cs] ++ T2 := ⟨_, rfl⟩
      have gk : K1[H.length]? = some cs := by rw [hK1]; exact ga
      repeat' first|simp (disch := first | omega | assumption | decide | (simp only [List.length_append,List.length_cons,List.length_nil]; omega)) only [go_sem,hm,hz,ht,hr_,ho,hpl,k0,k1,k2,k3,k4,k15,k16,k17,k18,k19,k20,k21,k22,hn,htk,Nat.le_refl,if_true,cond_true,cond_false,hle23,ga,c3D,c3T,hit,c1D,c2D,c1T,c2T,wdl,bind_some_,map_some_,oneD_fold]|(apply ifP_in<;>intro)
      refine rL_loop (σ := Nat) (fun i e H' => H' = K1 ∧ e 1 = .ptr H.length 0 ∧ e 3 = .str (s0 ++ slashT (u.path.take i)) ∧ e 4 = .i i ∧ i ≤ u.path.length) (fun i => u.path.length - i) 0 ?_ ?_
      ·refine ⟨?_, ?_, ?_, ?_, by omega⟩
       all_goals first | (simp (disch := first | assumption | omega) only [go_sem, hs0, hK1]; done) | (simp (disch := first | assumption | omega) only [go_sem, hs0, hK1]; rfl) | (simp (disch := first | assumption | omega) only [go_sem, hs0, hK1]; simp [slashT]; done) | (simp (disch := first | assumption | omega) only [go_sem, hs0, hK1]; simp [slashT, c1, c2]; done) | (simp [slashT, hs0, hK1]; done)
      ·rintro i e H' ⟨rfl, g1, g3, g4, i1⟩
       have hsi := slashT_le u.path i
       by_cases hi : i < u.path.length
       ·have hix := ix_at hi
        have hxl := f9 _ (List.getElem_mem hi)
        have hst := slashT_take hi
        have hsi2 := slashT_le u.path (i + 1)
        rw [hst] at hsi2
        simp only [List.length_append, List.length_cons, List.length_nil] at hsi2
        generalize u.path[i] = x at hix hxl hst hsi2
        generalize slashT (u.path.take i) = sp at g3 hsi hsi2 hst ⊢
        repeat' first|simp (disch := first | omega | assumption | decide | (simp only [List.length_append,List.length_cons,List.length_nil]; omega)) only [go_sem,hm,hz,ht,hr_,g1,g3,g4,hix,gk,hpl,k16,k18,wdl,bind_some_,map_some_,oneD_fold]|(apply ifP_in<;>intro)
        exact ⟨i + 1, ⟨by rw [hst]; simp, rfl, by omega⟩, by omega⟩
       ·obtain rfl : i = u.path.length := by omega
        rw [List.take_length] at g3 hsi
        generalize slashT u.path = sp at g3 hsi ⊢
        cases bq <;> cases bf
        all_goals
         repeat' first|simp (disch := first | omega | assumption | decide | (simp only [List.length_append,List.length_cons,List.length_nil]; omega)) only [go_sem,hm,hz,ht,hr_,g1,g3,g4,gk,hpl,k16,k18,k19,k20,k21,k22,cond_true,cond_false,wdl,bind_some_,map_some_,oneD_fold]|(apply ifP_in<;>intro)
        all_goals first | (rw [hK1, List.append_assoc]; exact List.prefix_append _ _) | (rw [hK1]; exact List.prefix_append _ _) | (refine ⟨?_, ?_⟩ <;> first | (rw [hs0]; done) | (rw [hs0]; simp; done) | (rw [hs0]; simp [c1, c2]; done) | (rw [hK1, List.append_assoc]; exact List.prefix_append _ _) | (rw [hK1]; exact List.prefix_append _ _)) | (rw [hs0]; simp; done)
     ·obtain ⟨s0, hs0⟩ : ∃ s0, s0 = u.scheme ++ [58] ++ wt ++ u.text := ⟨_, rfl⟩
      have hs0l : s0.length = u.scheme.length + 1 + wt.length + u.text.length := by rw [hs0]; simp; omega
      rw [hwt] at hs0
      repeat' first|simp (disch := first | omega | assumption | decide | (simp only [List.length_append,List.length_cons,List.length_nil]; omega)) only [go_sem,hm,hz,ht,hr_,ho,hpl,k0,k1,k2,k3,k4,k15,k16,k17,k18,k19,k20,k21,k22,hn,htk,Nat.le_refl,if_true,cond_true,cond_false,hle23,c1D,c2D,c1T,c2T,wdl,bind_some_,map_some_,oneD_fold]|(apply ifP_in<;>intro)
      refine rF_use hpr ?_
      rintro _ H2 ⟨rfl, T2, rfl⟩
      have ga : (H ++ [cs] ++ T2)[H.length]? = some cs := by simp
      obtain ⟨K1, hK1⟩ : ∃ K1, K1 = H ++ [cs] ++ T2 := ⟨_, rfl⟩
      have gk : K1[H.length]? = some cs := by rw [hK1]; exact ga
      repeat' first|simp (disch := first | omega | assumption | decide | (simp only [List.length_append,List.length_cons,List.length_nil]; omega)) only [go_sem,hm,hz,ht,hr_,ho,hpl,k0,k1,k2,k3,k4,k15,k16,k17,k18,k19,k20,k21,k22,hn,htk,Nat.le_refl,if_true,cond_true,cond_false,hle23,ga,c3D,c3T,hit,c1D,c2D,c1T,c2T,wdl,bind_some_,map_some_,oneD_fold]|(apply ifP_in<;>intro)
      refine rL_loop (σ := Unit) (fun _ e H' => H' = K1 ∧ e 1 = .ptr H.length 0 ∧ e 3 = .str s0 ∧ e 4 = .i 0) (fun _ => 0) () ?_ ?_
      ·refine ⟨?_, ?_, ?_, ?_⟩
       all_goals first | (simp (disch := first | assumption | omega) only [go_sem, hs0, hK1]; done) | (simp (disch := first | assumption | omega) only [go_sem, hs0, hK1]; rfl) | (simp (disch := first | assumption | omega) only [go_sem, hs0, hK1]; simp; done) | (simp (disch := first | assumption | omega) only [go_sem, hs0, hK1]; simp [c1, c2]; done) | (simp [hs0, hK1]; done)
      ·rintro _ e H' ⟨rfl, g1, g3, g4⟩
       by_cases hi : 0 < u.path.length
       ·cases bq <;> cases bf
        all_goals
         repeat' first|simp (disch := first | omega | assumption | decide | (simp only [List.length_append,List.length_cons,List.length_nil]; omega)) only [go_sem,hm,hz,ht,hr_,g1,g3,g4,gk,hpl,k16,k18,k19,k20,k21,k22,cond_true,cond_false,wdl,bind_some_,map_some_,oneD_fold]|(apply ifP_in<;>intro)
        all_goals first | (rw [hK1, List.append_assoc]; exact List.prefix_append _ _) | (rw [hK1]; exact List.prefix_append _ _) | (refine ⟨?_, ?_⟩ <;> first | (rw [hs0]; done) | (rw [hs0]; simp; done) | (rw [hs0]; simp [c1, c2]; done) | (rw [hK1, List.append_assoc]; exact List.prefix_append _ _) | (rw [hK1]; exact List.prefix_append _ _)) | (rw [hs0]; simp; done)
       ·cases bq <;> cases bf
        all_goals
         repeat' first|simp (disch := first | omega | assumption | decide | (simp only [List.length_append,List.length_cons,List.length_nil]; omega)) only [go_sem,hm,hz,ht,hr_,g1,g3,g4,gk,hpl,k16,k18,k19,k20,k21,k22,cond_true,cond_false,wdl,bind_some_,map_some_,oneD_fold]|(apply ifP_in<;>intro)
        all_goals first | (rw [hK1, List.append_assoc]; exact List.prefix_append _ _) | (rw [hK1]; exact List.prefix_append _ _) | (refine ⟨?_, ?_⟩ <;> first | (rw [hs0]; done) | (rw [hs0]; simp; done) | (rw [hs0]; simp [c1, c2]; done) | (rw [hK1, List.append_assoc]; exact List.prefix_append _ _) | (rw [hK1]; exact List.prefix_append _ _)) | (rw [hs0]; simp; done)
   ·have c2D : decide (u.pass ≠ []) = true := by simp [c2]
    have c2T : (u.pass = []) = False := eq_false c2
    rw [if_neg (fun h => c2 h.2), if_neg c2]
    by_cases c3 : u.port = -1
    ·have c3D : decide (u.port ≠ -1) = false := by simp [c3]
     have c3T : (u.port = -1) = True := eq_true c3
     rw [if_pos c3]
     obtain ⟨wt, hwt⟩ : ∃ wt, wt = [47, 47] ++ (u.user ++ ([58] ++ u.pass) ++ [64]) ++ t ++ [] := ⟨_, rfl⟩
     have hwtl : wt.length ≤ u.user.length + u.pass.length + t.length + 30 := by rw [hwt]; simp; omega
     cases bd
     ·obtain ⟨s0, hs0⟩ : ∃ s0, s0 = u.scheme ++ [58] ++ wt := ⟨_, rfl⟩
      have hs0l : s0.length = u.scheme.length + 1 + wt.length := by rw [hs0]; simp; omega
      rw [hwt] at hs0
      repeat' first|simp (disch := first | omega | assumption | decide | (simp only [List.length_append,List.length_cons,List.length_nil]; omega)) only [go_sem,hm,hz,ht,hr_,ho,hpl,k0,k1,k2,k3,k4,k15,k16,k17,k18,k19,k20,k21,k22,hn,htk,Nat.le_refl,if_true,cond_true,cond_false,hle23,c1D,c2D,c1T,c2T,wdl,bind_some_,map_some_,oneD_fold]|(apply ifP_in<;>intro)
      refine rF_use hpr ?_
      rintro _ H2 ⟨rfl, T2, rfl⟩
      have ga : (H ++ [cs] ++ T2)[H.length]? = some cs := by simp
      obtain ⟨K1, hK1⟩ : ∃ K1, K1 = H ++ [cs] ++ T2 := ⟨_, rfl⟩
      have gk : K1[H.length]? = some cs := by rw [hK1]; exact ga
      repeat' first|simp (disch := first | omega | assumption | decide | (simp only [List.length_append,List.length_cons,List.length_nil]; omega)) only [go_sem,hm,hz,ht,hr_,ho,hpl,k0,k1,k2,k3,k4,k15,k16,k17,k18,k19,k20,k21,k22,hn,htk,Nat.le_refl,if_true,cond_true,cond_false,hle23,ga,c3D,c3T,hit,c1D,c2D,c1T,c2T,wdl,bind_some_,map_some_,oneD_fold]|(apply ifP_in<;>intro)
      refine rL_loop (σ := Nat) (fun i e H' => H' = K1 ∧ e 1 = .ptr H.length 0 ∧ e 3 = .str (s0 ++ slashT (u.path.take i)) ∧ e 4 = .i i ∧ i ≤ u.path.length) (fun i => u.path.length - i) 0 ?_ ?_
      ·refine ⟨?_, ?_, ?_, ?_, by omega⟩
       all_goals first | (simp (disch := first | assumption | omega) only [go_sem, hs0, hK1]; done) | (simp (disch := first | assumption | omega) only [go_sem, hs0, hK1]; rfl) | (simp (disch := first | assumption | omega) only [go_sem, hs0, hK1]; simp [slashT]; done) | (simp (disch := first | assumption | omega) only [go_sem, hs0, hK1]; simp [slashT, c1, c2]; done) | (simp [slashT, hs0, hK1]; done)
      ·rintro i e H' ⟨rfl, g1, g3, g4, i1⟩
       have hsi := slashT_le u.path i
       by_cases hi : i < u.path.length
       ·have hix := ix_at hi
        have hxl := f9 _ (List.getElem_mem hi)
        have hst := slashT_take hi
        have hsi2 := slashT_le u.path (i + 1)
        rw [hst] at hsi2
        simp only [List.length_append, List.length_cons, List.length_nil] at hsi2
        generalize u.path[i] = x at hix hxl hst hsi2
        generalize slashT (u.path.take i) = sp at g3 hsi hsi2 hst ⊢
        repeat' first|simp (disch := first | omega | assumption | decide | (simp only [List.length_append,List.length_cons,List.length_nil]; omega)) only [go_sem,hm,hz,ht,hr_,g1,g3,g4,hix,gk,hpl,k16,k18,wdl,bind_some_,map_some_,oneD_fold]|(apply ifP_in<;>intro)
        exact ⟨i + 1, ⟨by rw [hst]; simp, rfl, by omega⟩, by omega⟩
       ·obtain rfl : i = u.path.length := by omega
        rw [List.take_length] at g3 hsi
        generalize slashT u.path = sp at g3 hsi ⊢
        cases bq <;> cases bf
        all_goals
         repeat' first|simp (disch := first | omega | assumption | decide | (simp only [List.length_append,List.length_cons,List.length_nil]; omega)) only [go_sem,hm,hz,ht,hr_,g1,g3,g4,gk,hpl,k16,k18,k19,k20,k21,k22,cond_true,cond_false,wdl,bind_some_,map_some_,oneD_fold]|(apply ifP_in<;>intro)
        all_goals first | (rw [hK1, List.append_assoc]; exact List.prefix_append _ _) | (rw [hK1]; exact List.prefix_append _ _) | (refine ⟨?_, ?_⟩ <;> first | (rw [hs0]; done) | (rw [hs0]; simp; done) | (rw [hs0]; simp [c1, c2]; done) | (rw [hK1, List.append_assoc]; exact List.prefix_append _ _) | (rw [hK1]; exact List.prefix_append _ _)) | (rw [hs0]; simp; done)
     ·obtain ⟨s0, hs0⟩ : ∃ s0, s0 = u.scheme ++ [58] ++ wt ++ u.text := ⟨_, rfl⟩
      have hs0l : s0.length = u.scheme.length + 1 + wt.length + u.text.length := by rw [hs0]; simp; omega
      rw [hwt] at hs0
      repeat' first|simp (disch := first | omega | assumption | decide | (simp only [List.length_append,List.length_cons,List.length_nil]; omega)) only [go_sem,hm,hz,ht,hr_,ho,hpl,k0,k1,k2,k3,k4,k15,k16,k17,k18,k19,k20,k21,k22,hn,htk,Nat.le_refl,if_true,cond_true,cond_false,hle23,c1D,c2D,c1T,c2T,wdl,bind_some_,map_some_,oneD_fold]|(apply ifP_in<;>intro)
      refine rF_use hpr ?_
      rintro _ H2 ⟨rfl, T2, rfl⟩
      have ga : (H ++ [cs] ++ T2)[H.length]? = some cs := by simp
      obtain ⟨K1, hK1⟩ : ∃ K1, K1 = H ++ [cs] ++ T2 := ⟨_, rfl⟩
      have gk : K1[H.length]? = some cs := by rw [hK1]; exact ga
      repeat' first|simp (disch := first | omega | assumption | decide | (simp only [List.length_append,List.length_cons,List.length_nil]; omega)) only [go_sem,hm,hz,ht,hr_,ho,hpl,k0,k1,k2,k3,k4,k15,k16,k17,k18,k19,k20,k21,k22,hn,htk,Nat.le_refl,if_true,cond_true,cond_false,hle23,ga,c3D,c3T,hit,c1D,c2D,c1T,c2T,wdl,bind_some_,map_some_,oneD_fold]|(apply ifP_in<;>intro)
      refine rL_loop (σ := Unit) (fun _ e H' => H' = K1 ∧ e 1 = .ptr H.length 0 ∧ e 3 = .str s0 ∧ e 4 = .i 0) (fun _ => 0) () ?_ ?_
      ·refine ⟨?_, ?_, ?_, ?_⟩
       all_goals first | (simp (disch := first | assumption | omega) only [go_sem, hs0, hK1]; done) | (simp (disch := first | assumption | omega) only [go_sem, hs0, hK1]; rfl) | (simp (disch := first | assumption | omega) only [go_sem, hs0, hK1]; simp; done) | (simp (disch := first | assumption | omega) only [go_sem, hs0, hK1]; simp [c1, c2]; done) | (simp [hs0, hK1]; done)
      ·rintro _ e H' ⟨rfl, g1, g3, g4⟩
       by_cases hi : 0 < u.path.length
       ·cases bq <;> cases bf
        all_goals
         repeat' first|simp (disch := first | omega | assumption | decide | (simp only [List.length_append,List.length_cons,List.length_nil]; omega)) only [go_sem,hm,hz,ht,hr_,g1,g3,g4,gk,hpl,k16,k18,k19,k20,k21,k22,cond_true,cond_false,wdl,bind_some_,map_some_,oneD_fold]|(apply ifP_in<;>intro)
        all_goals first | (rw [hK1, List.append_assoc]; exact List.prefix_append _ _) | (rw [hK1]; exact List.prefix_append _ _) | (refine ⟨?_, ?_⟩ <;> first | (rw [hs0]; done) | (rw [hs0]; simp; done) | (rw [hs0]; simp [c1, c2]; done) | (rw [hK1, List.append_assoc]; exact List.prefix_append _ _) | (rw [hK1]; exact List.prefix_append _ _)) | (rw [hs0]; simp; done)
       ·cases bq <;> cases bf
        all_goals
         repeat' first|simp (disch := first | omega | assumption | decide | (simp only [List.length_append,List.length_cons,List.length_nil]; omega)) only [go_sem,hm,hz,ht,hr_,g1,g3,g4,gk,hpl,k16,k18,k19,k20,k21,k22,cond_true,cond_false,wdl,bind_some_,map_some_,oneD_fold]|(apply ifP_in<;>intro)
        all_goals first | (rw [hK1, List.append_assoc]; exact List.prefix_append _ _) | (rw [hK1]; exact List.prefix_append _ _) | (refine ⟨?_, ?_⟩ <;> first | (rw [hs0]; done) | (rw [hs0]; simp; done) | (rw [hs0]; simp [c1, c2]; done) | (rw [hK1, List.append_assoc]; exact List.prefix_append _ _) | (rw [hK1]; exact List.prefix_append _ _)) | (rw [hs0]; simp; done)
    ·have c3D : decide (u.port ≠ -1) = true := by simp [c3]
     have c3T : (u.port = -1) = False := eq_false c3
     rw [if_neg c3]
     obtain ⟨wt, hwt⟩ : ∃ wt, wt = [47, 47] ++ (u.user ++ ([58] ++ u.pass) ++ [64]) ++ t ++ ([58] ++ it) := ⟨_, rfl⟩
     have hwtl : wt.length ≤ u.user.length + u.pass.length + t.length + 30 := by rw [hwt]; simp; omega
     cases bd
     ·obtain ⟨s0, hs0⟩ : ∃ s0, s0 = u.scheme ++ [58] ++ wt := ⟨_, rfl⟩
      have hs0l : s0.length = u.scheme.length + 1 + wt.length := by rw [hs0]; simp; omega
      rw [hwt] at hs0
      repeat' first|simp (disch := first | omega | assumption | decide | (simp only [List.length_append,List.length_cons,List.length_nil]; omega)) only [go_sem,hm,hz,ht,hr_,ho,hpl,k0,k1,k2,k3,k4,k15,k16,k17,k18,k19,k20,k21,k22,hn,htk,Nat.le_refl,if_true,cond_true,cond_false,hle23,c1D,c2D,c1T,c2T,wdl,bind_some_,map_some_,oneD_fold]|(apply ifP_in<;>intro)
      refine rF_use hpr ?_
      rintro _ H2 ⟨rfl, T2, rfl⟩
      have ga : (H ++ [cs] ++ T2)[H.length]? = some cs := by simp
      obtain ⟨K1, hK1⟩ : ∃ K1, K1 = H ++ [cs] ++ T2 := ⟨_, rfl⟩
      have gk : K1[H.length]? = some cs := by rw [hK1]; exact ga
      repeat' first|simp (disch := first | omega | assumption | decide | (simp only [List.length_append,List.length_cons,List.length_nil]; omega)) only [go_sem,hm,hz,ht,hr_,ho,hpl,k0,k1,k2,k3,k4,k15,k16,k17,k18,k19,k20,k21,k22,hn,htk,Nat.le_refl,if_true,cond_true,cond_false,hle23,ga,c3D,c3T,hit,c1D,c2D,c1T,c2T,wdl,bind_some_,map_some_,oneD_fold]|(apply ifP_in<;>intro)
      refine rL_loop (σ := Nat) (fun i e H' => H' = K1 ∧ e 1 = .ptr H.length 0 ∧ e 3 = .str (s0 ++ slashT (u.path.take i)) ∧ e 4 = .i i ∧ i ≤ u.path.length) (fun i => u.path.length - i) 0 ?_ ?_
      ·refine ⟨?_, ?_, ?_, ?_, by omega⟩
       all_goals first | (simp (disch := first | assumption | omega) only [go_sem, hs0, hK1]; done) | (simp (disch := first | assumption | omega) only [go_sem, hs0, hK1]; rfl) | (simp (disch := first | assumption | omega) only [go_sem, hs0, hK1]; simp [slashT]; done) | (simp (disch := first | assumption | omega) only [go_sem, hs0, hK1]; simp [slashT, c1, c2]; done) | (simp [slashT, hs0, hK1]; done)
      ·rintro i e H' ⟨rfl, g1, g3, g4, i1⟩
       have hsi := slashT_le u.path i
       by_cases hi : i < u.path.length
       ·have hix := ix_at hi
        have hxl := f9 _ (List.getElem_mem hi)
        have hst := slashT_take hi
        have hsi2 := slashT_le u.path (i + 1)
        rw [hst] at hsi2
        simp only [List.length_append, List.length_cons, List.length_nil] at hsi2
        generalize u.path[i] = x at hix hxl hst hsi2
        generalize slashT (u.path.take i) = sp at g3 hsi hsi2 hst ⊢
        repeat' first|simp (disch := first | omega | assumption | decide | (simp only [List.length_append,List.length_cons,List.length_nil]; omega)) only [go_sem,hm,hz,ht,hr_,g1,g3,g4,hix,gk,hpl,k16,k18,wdl,bind_some_,map_some_,oneD_fold]|(apply ifP_in<;>intro)
        exact ⟨i + 1, ⟨by rw [hst]; simp, rfl, by omega⟩, by omega⟩
       ·obtain rfl : i = u.path.length := by omega
        rw [List.take_length] at g3 hsi
        generalize slashT u.path = sp at g3 hsi ⊢
        cases bq <;> cases bf
        all_goals
         repeat' first|simp (disch := first | omega | assumption | decide | (simp only [List.length_append,List.length_cons,List.length_nil]; omega)) only [go_sem,hm,hz,ht,hr_,g1,g3,g4,gk,hpl,k16,k18,k19,k20,k21,k22,cond_true,cond_false,wdl,bind_some_,map_some_,oneD_fold]|(apply ifP_in<;>intro)
        all_goals first | (rw [hK1, List.append_assoc]; exact List.prefix_append _ _) | (rw [hK1]; exact List.prefix_append _ _) | (refine ⟨?_, ?_⟩ <;> first | (rw [hs0]; done) | (rw [hs0]; simp; done) | (rw [hs0]; simp [c1, c2]; done) | (rw [hK1, List.append_assoc]; exact List.prefix_append _ _) | (rw [hK1]; exact List.prefix_append _ _)) | (rw [hs0]; simp; done)
     ·obtain ⟨s0, hs0⟩ : ∃ s0, s0 = u.scheme ++ [58] ++ wt ++ u.text := ⟨_, rfl⟩
      have hs0l : s0.length = u.scheme.length + 1 + wt.length + u.text.length := by rw [hs0]; simp; omega
      rw [hwt] at hs0
      repeat' first|simp (disch := first | omega | assumption | decide | (simp only [List.length_append,List.length_cons,List.length_nil]; omega)) only [go_sem,hm,hz,ht,hr_,ho,hpl,k0,k1,k2,k3,k4,k15,k16,k17,k18,k19,k20,k21,k22,hn,htk,Nat.le_refl,if_true,cond_true,cond_false,hle23,c1D,c2D,c1T,c2T,wdl,bind_some_,map_some_,oneD_fold]|(apply ifP_in<;>intro)
      refine rF_use hpr ?_
      rintro _ H2 ⟨rfl, T2, rfl⟩
      have ga : (H ++ [cs] ++ T2)[H.length]? = some cs := by simp
      obtain ⟨K1, hK1⟩ : ∃ K1, K1 = H ++ [cs] ++ T2 := ⟨_, rfl⟩
      have gk : K1[H.length]? = some cs := by rw [hK1]; exact ga
      repeat' first|simp (disch := first | omega | assumption | decide | (simp only [List.length_append,List.length_cons,List.length_nil]; omega)) only [go_sem,hm,hz,ht,hr_,ho,hpl,k0,k1,k2,k3,k4,k15,k16,k17,k18,k19,k20,k21,k22,hn,htk,Nat.le_refl,if_true,cond_true,cond_false,hle23,ga,c3D,c3T,hit,c1D,c2D,c1T,c2T,wdl,bind_some_,map_some_,oneD_fold]|(apply ifP_in<;>intro)
      refine rL_loop (σ := Unit) (fun _ e H' => H' = K1 ∧ e 1 = .ptr H.length 0 ∧ e 3 = .str s0 ∧ e 4 = .i 0) (fun _ => 0) () ?_ ?_
      ·refine ⟨?_, ?_, ?_, ?_⟩
       all_goals first | (simp (disch := first | assumption | omega) only [go_sem, hs0, hK1]; done) | (simp (disch := first | assumption | omega) only [go_sem, hs0, hK1]; rfl) | (simp (disch := first | assumption | omega) only [go_sem, hs0, hK1]; simp; done) | (simp (disch := first | assumption | omega) only [go_sem, hs0, hK1]; simp [c1, c2]; done) | (simp [hs0, hK1]; done)
      ·rintro _ e H' ⟨rfl, g1, g3, g4⟩
       by_cases hi : 0 < u.path.length
       ·cases bq <;> cases bf
        all_goals
         repeat' first|simp (disch := first | omega | assumption | decide | (simp only [List.length_append,List.length_cons,List.length_nil]; omega)) only [go_sem,hm,hz,ht,hr_,g1,g3,g4,gk,hpl,k16,k18,k19,k20,k21,k22,cond_true,cond_false,wdl,bind_some_,map_some_,oneD_fold]|(apply ifP_in<;>intro)
        all_goals first | (rw [hK1, List.append_assoc]; exact List.prefix_append _ _) | (rw [hK1]; exact List.prefix_append _ _) | (refine ⟨?_, ?_⟩ <;> first | (rw [hs0]; done) | (rw [hs0]; simp; done) | (rw [hs0]; simp [c1, c2]; done) | (rw [hK1, List.append_assoc]; exact List.prefix_append _ _) | (rw [hK1]; exact List.prefix_append _ _)) | (rw [hs0]; simp; done)
       ·cases bq <;> cases bf
        all_goals
         repeat' first|simp (disch := first | omega | assumption | decide | (simp only [List.length_append,List.length_cons,List.length_nil]; omega)) only [go_sem,hm,hz,ht,hr_,g1,g3,g4,gk,hpl,k16,k18,k19,k20,k21,k22,cond_true,cond_false,wdl,bind_some_,map_some_,oneD_fold]|(apply ifP_in<;>intro)
        all_goals first | (rw [hK1, List.append_assoc]; exact List.prefix_append _ _) | (rw [hK1]; exact List.prefix_append _ _) | (refine ⟨?_, ?_⟩ <;> first | (rw [hs0]; done) | (rw [hs0]; simp; done) | (rw [hs0]; simp [c1, c2]; done) | (rw [hK1, List.append_assoc]; exact List.prefix_append _ _) | (rw [hK1]; exact List.prefix_append _ _)) | (rw [hs0]; simp; done)
end Hs
end Go.Proofs
/- Walks: two addresses, field by field. (Printed by gen_g.py.) -/
set_option linter.unusedVariables false
set_option linter.unusedSimpArgs false
namespace Go.Proofs
open Go.Lv
namespace Hs
open Pu Ut Utf In
variable {H : Heap}
def hostE (h h' : HostV) : Bool := eqH h.k h.n h.v h.l h'.k h'.n h'.v h'.l
def eqU (u v : UrlV) : Bool := decide (u.scheme = v.scheme ∧ u.user = v.user ∧ u.pass = v.pass ∧ u.has = v.has ∧ hostE u.host v.host = true ∧ u.port = v.port ∧ u.dark = v.dark ∧ u.text = v.text ∧ u.path = v.path ∧ u.hasQ = v.hasQ ∧ u.q = v.q ∧ u.hasF = v.hasF ∧ u.f = v.f)
theorem host_rE (h h' : HostV) (h8 : h.l.length = 8) (h8' : h'.l.length = 8) : WF Tryz.prog cfg 48 [.agg h.cells, .agg h'.cells] H (fun r H' => r = .b (hostE h h') ∧ H <+: H') := host_r h.k h.n h.v h.l h'.k h'.n h'.v h'.l h8 h8'
theorem bin_hostE (h h' : HostV) (h8 : h.l.length = 8) (h8' : h'.l.length = 8) : bin Tryz.prog .eql 27 (.agg h.cells) (.agg h'.cells) = some (.b (hostE h h')) := bin_host h8 h8'
theorem ReadsS.add {a : AV} {l : List (List UInt8)} (h : ReadsS H a l) (T : Heap) : ReadsS (H ++ T) a l := by
 rcases h with h | ⟨j, off, xs, h1, h2, h3, h4⟩
 ·exact .inl h
 ·exact .inr ⟨j, off, xs, h1, by rw [xgL (xgI.1 h2).1]; exact h2, h3, h4⟩
theorem rO_app1 {P : Program} {C : Cfg} {o : Oper} {r m : List Oper} {e : Env} {all : K (Array Oper)} {Q : K (Env → Heap → Prop)} : @rO P C (List.append (o :: r) m) e H all Q = @rO P C (o :: List.append r m) e H all Q := rfl
theorem rO_app0 {P : Program} {C : Cfg} {m : List Oper} {e : Env} {all : K (Array Oper)} {Q : K (Env → Heap → Prop)} : @rO P C (List.append [] m) e H all Q = @rO P C m e H all Q := rfl
theorem eqU_same (u : UrlV) : eqU u u = true := by
 unfold eqU
 refine decide_eq_true ⟨rfl, rfl, rfl, rfl, ?_, rfl, rfl, rfl, rfl, rfl, rfl, rfl, rfl⟩
 unfold hostE eqH
 simp
set_option maxRecDepth 100000 in
set_option maxHeartbeats 8000000 in
theorem url_r (u v : UrlV) (p q : AV) (hp1 : p.one = true) (hq1 : q.one = true) (h8 : u.host.l.length = 8) (h8' : v.host.l.length = 8) (hlu : u.path.length ≤ 140737488355328) (hlv : v.path.length ≤ 140737488355328) (hrp : ReadsS H (plainA p) u.path) (hrq : ReadsS H (plainA q) v.path) :
  WF Tryz.prog cfg 16 [.agg (ucells u p), .agg (ucells v q)] H (fun r H' => r = .b (eqU u v) ∧ H <+: H') := by
 have hhost := fun {H : Heap} => host_rE (H := H) u.host v.host h8 h8'
 have hpath := fun {K9 : Heap} (ha : ReadsS K9 (plainA p) u.path) (hb : ReadsS K9 (plainA q) v.path) => texts_r (H := K9) u.path v.path hlu hlv ha hb
 have hm : ∀ d, cfg.muF 16 d = (false) := fun _ => rfl
 have hz : ∀ d, cfg.fzF 16 d = (false) := fun _ => rfl
 have ht : ∀ d, cfg.tkF 16 d = (false) := fun _ => rfl
 have hr_ : ∀ g, cfg.raw g = (g == 253 || g == 225 || g == 53) := fun _ => rfl
 refine rF_fn rfl rfl Tryz.func16 rfl ?_
 have heq : eqU u v = decide (u.scheme = v.scheme ∧ u.user = v.user ∧ u.pass = v.pass ∧ u.has = v.has ∧ hostE u.host v.host = true ∧ u.port = v.port ∧ u.dark = v.dark ∧ u.text = v.text ∧ u.path = v.path ∧ u.hasQ = v.hasQ ∧ u.q = v.q ∧ u.hasF = v.hasF ∧ u.f = v.f) := rfl
 rw [heq]
 clear heq
 have honeA : p.one = true := hp1
 have hoA := u_one u p honeA
 have hnA := u_len u p h8
 have hplA := fun {x : Option AV} => u_pl u p honeA (x := x)
 have a0 := fun {s : Option Nat} => u_k0 u p (s := s)
 have a1 := fun {s : Option Nat} => u_k1 u p (s := s)
 have a2 := fun {s : Option Nat} => u_k2 u p (s := s)
 have a3 := fun {s : Option Nat} => u_k3 u p (s := s)
 have a4 := u_k4 u p h8
 have a15 := fun {s : Option Nat} => u_k15 u p h8 (s := s)
 have a16 := fun {s : Option Nat} => u_k16 u p h8 (s := s)
 have a17 := fun {s : Option Nat} => u_k17 u p h8 (s := s)
 have a18 := fun {s : Option Nat} => u_k18 u p h8 (s := s)
 have a19 := fun {s : Option Nat} => u_k19 u p h8 (s := s)
 have a20 := fun {s : Option Nat} => u_k20 u p h8 (s := s)
 have a21 := fun {s : Option Nat} => u_k21 u p h8 (s := s)
 have a22 := fun {s : Option Nat} => u_k22 u p h8 (s := s)
 generalize ucells u p = csA at *
 have honeB : q.one = true := hq1
 have hoB := u_one v q honeB
 have hnB := u_len v q h8'
 have hplB := fun {x : Option AV} => u_pl v q honeB (x := x)
 have b0 := fun {s : Option Nat} => u_k0 v q (s := s)
 have b1 := fun {s : Option Nat} => u_k1 v q (s := s)
 have b2 := fun {s : Option Nat} => u_k2 v q (s := s)
 have b3 := fun {s : Option Nat} => u_k3 v q (s := s)
 have b4 := u_k4 v q h8'
 have b15 := fun {s : Option Nat} => u_k15 v q h8' (s := s)
 have b16 := fun {s : Option Nat} => u_k16 v q h8' (s := s)
 have b17 := fun {s : Option Nat} => u_k17 v q h8' (s := s)
 have b18 := fun {s : Option Nat} => u_k18 v q h8' (s := s)
 have b19 := fun {s : Option Nat} => u_k19 v q h8' (s := s)
 have b20 := fun {s : Option Nat} => u_k20 v q h8' (s := s)
 have b21 := fun {s : Option Nat} => u_k21 v q h8' (s := s)
 have b22 := fun {s : Option Nat} => u_k22 v q h8' (s := s)
 generalize ucells v q = csB at *
 have hpx : ∀ x y : List AV, H <+: H ++ [x] ++ [y] := fun x y => by rw [List.append_assoc]; exact List.prefix_append _ _
 have hpy : ∀ (x y : List AV) (T : Heap), H <+: H ++ [x] ++ [y] ++ T := fun x y T => by rw [List.append_assoc, List.append_assoc]; exact List.prefix_append _ _
 generalize u.host.cells = hcA at *
 generalize v.host.cells = hcB at *
 generalize hostE u.host v.host = he at *
 by_cases c0 : u.scheme = v.scheme
 ·have c0F : (u.scheme = v.scheme) = True := eq_true c0
  have c0D : decide (u.scheme = v.scheme) = true := decide_eq_true c0
  by_cases c1 : u.user = v.user
  ·have c1F : (u.user = v.user) = True := eq_true c1
   have c1D : decide (u.user = v.user) = true := decide_eq_true c1
   by_cases c2 : u.pass = v.pass
   ·have c2F : (u.pass = v.pass) = True := eq_true c2
    have c2D : decide (u.pass = v.pass) = true := decide_eq_true c2
    by_cases c3 : u.has = v.has
    ·have c3B : (u.has == v.has) = true := by simp [c3]
     by_cases c4 : he = true
     ·subst c4
      by_cases c5 : u.port = v.port
      ·have c5F : (u.port = v.port) = True := eq_true c5
       have c5D : decide (u.port = v.port) = true := decide_eq_true c5
       by_cases c6 : u.dark = v.dark
       ·have c6B : (u.dark == v.dark) = true := by simp [c6]
        by_cases c7 : u.text = v.text
        ·have c7F : (u.text = v.text) = True := eq_true c7
         have c7D : decide (u.text = v.text) = true := decide_eq_true c7
         by_cases c8 : u.path = v.path
         ·have c8D : decide (u.path = v.path) = true := decide_eq_true c8
          rw [c8D] at hpath
          by_cases c9 : u.hasQ = v.hasQ
          ·have c9B : (u.hasQ == v.hasQ) = true := by simp [c9]
           by_cases c10 : u.q = v.q
           ·have c10F : (u.q = v.q) = True := eq_true c10
            have c10D : decide (u.q = v.q) = true := decide_eq_true c10
            by_cases c11 : u.hasF = v.hasF
            ·have c11B : (u.hasF == v.hasF) = true := by simp [c11]
             by_cases c12 : u.f = v.f
             ·have c12F : (u.f = v.f) = True := eq_true c12
              have c12D : decide (u.f = v.f) = true := decide_eq_true c12
              rw [decide_eq_true (⟨c0, c1, c2, c3, rfl, c5, c6, c7, c8, c9, c10, c11, c12⟩ : _)]
              repeat' first|simp (disch := first | omega | assumption | decide | (simp only [List.length_append,List.length_cons,List.length_nil]; omega)) only [go_sem,hm,hz,ht,hr_,rO_app1,rO_app0,hoA,hoB,hplA,hplB,a0,b0,a1,b1,a2,b2,a3,b3,a4,b4,a15,b15,a16,b16,a17,b17,a18,b18,a19,b19,a20,b20,a21,b21,a22,b22,if_true,g2a,g2b,c0F,c0D,c1F,c1D,c2F,c2D,c3B,c5F,c5D,c6B,c7F,c7D,c8D,c9B,c10F,c10D,c11B,c12F,c12D,wdl,bind_some_,map_some_,oneD_fold]|(apply ifP_in<;>intro)
              refine rF_use hhost ?_
              rintro _ H2 ⟨rfl, T2, rfl⟩
              have gA2 : (H ++ [csA] ++ [csB] ++ T2)[H.length]? = some csA := by simp
              have gB2 : (H ++ [csA] ++ [csB] ++ T2)[H.length + 1]? = some csB := by rw [xgL (by simp)]; simp
              have gB3 : (H ++ [csA] ++ [csB] ++ T2)[(H ++ [csA]).length]? = some csB := by rw [xgL (by simp)]; simp
              repeat' first|simp (disch := first | omega | assumption | decide | (simp only [List.length_append,List.length_cons,List.length_nil]; omega)) only [go_sem,hm,hz,ht,hr_,rO_app1,rO_app0,hoA,hoB,hplA,hplB,a0,b0,a1,b1,a2,b2,a3,b3,a4,b4,a15,b15,a16,b16,a17,b17,a18,b18,a19,b19,a20,b20,a21,b21,a22,b22,if_true,g2a,g2b,c0F,c0D,c1F,c1D,c2F,c2D,c3B,c5F,c5D,c6B,c7F,c7D,c8D,c9B,c10F,c10D,c11B,c12F,c12D,gA2,gB2,gB3,wdl,bind_some_,map_some_,oneD_fold]|(apply ifP_in<;>intro)
              refine rF_use (hpath (by have := hrp.add ([csA] ++ [csB] ++ T2); simpa using this) (by have := hrq.add ([csA] ++ [csB] ++ T2); simpa using this)) ?_
              rintro _ H3 ⟨rfl, rfl⟩
              repeat' first|simp (disch := first | omega | assumption | decide | (simp only [List.length_append,List.length_cons,List.length_nil]; omega)) only [go_sem,hm,hz,ht,hr_,rO_app1,rO_app0,hoA,hoB,hplA,hplB,a0,b0,a1,b1,a2,b2,a3,b3,a4,b4,a15,b15,a16,b16,a17,b17,a18,b18,a19,b19,a20,b20,a21,b21,a22,b22,if_true,g2a,g2b,c0F,c0D,c1F,c1D,c2F,c2D,c3B,c5F,c5D,c6B,c7F,c7D,c8D,c9B,c10F,c10D,c11B,c12F,c12D,gA2,gB2,gB3,wdl,bind_some_,map_some_,oneD_fold]|(apply ifP_in<;>intro)
              exact hpy _ _ _
             ·have c12F : (u.f = v.f) = False := eq_false c12
              have c12D : decide (u.f = v.f) = false := decide_eq_false c12
              rw [decide_eq_false (fun h => c12 h.2.2.2.2.2.2.2.2.2.2.2.2)]
              repeat' first|simp (disch := first | omega | assumption | decide | (simp only [List.length_append,List.length_cons,List.length_nil]; omega)) only [go_sem,hm,hz,ht,hr_,rO_app1,rO_app0,hoA,hoB,hplA,hplB,a0,b0,a1,b1,a2,b2,a3,b3,a4,b4,a15,b15,a16,b16,a17,b17,a18,b18,a19,b19,a20,b20,a21,b21,a22,b22,if_true,g2a,g2b,c0F,c0D,c1F,c1D,c2F,c2D,c3B,c5F,c5D,c6B,c7F,c7D,c8D,c9B,c10F,c10D,c11B,c12F,c12D,wdl,bind_some_,map_some_,oneD_fold]|(apply ifP_in<;>intro)
              refine rF_use hhost ?_
              rintro _ H2 ⟨rfl, T2, rfl⟩
              have gA2 : (H ++ [csA] ++ [csB] ++ T2)[H.length]? = some csA := by simp
              have gB2 : (H ++ [csA] ++ [csB] ++ T2)[H.length + 1]? = some csB := by rw [xgL (by simp)]; simp
              have gB3 : (H ++ [csA] ++ [csB] ++ T2)[(H ++ [csA]).length]? = some csB := by rw [xgL (by simp)]; simp
              repeat' first|simp (disch := first | omega | assumption | decide | (simp only [List.length_append,List.length_cons,List.length_nil]; omega)) only [go_sem,hm,hz,ht,hr_,rO_app1,rO_app0,hoA,hoB,hplA,hplB,a0,b0,a1,b1,a2,b2,a3,b3,a4,b4,a15,b15,a16,b16,a17,b17,a18,b18,a19,b19,a20,b20,a21,b21,a22,b22,if_true,g2a,g2b,c0F,c0D,c1F,c1D,c2F,c2D,c3B,c5F,c5D,c6B,c7F,c7D,c8D,c9B,c10F,c10D,c11B,c12F,c12D,gA2,gB2,gB3,wdl,bind_some_,map_some_,oneD_fold]|(apply ifP_in<;>intro)
              refine rF_use (hpath (by have := hrp.add ([csA] ++ [csB] ++ T2); simpa using this) (by have := hrq.add ([csA] ++ [csB] ++ T2); simpa using this)) ?_
              rintro _ H3 ⟨rfl, rfl⟩
              repeat' first|simp (disch := first | omega | assumption | decide | (simp only [List.length_append,List.length_cons,List.length_nil]; omega)) only [go_sem,hm,hz,ht,hr_,rO_app1,rO_app0,hoA,hoB,hplA,hplB,a0,b0,a1,b1,a2,b2,a3,b3,a4,b4,a15,b15,a16,b16,a17,b17,a18,b18,a19,b19,a20,b20,a21,b21,a22,b22,if_true,g2a,g2b,c0F,c0D,c1F,c1D,c2F,c2D,c3B,c5F,c5D,c6B,c7F,c7D,c8D,c9B,c10F,c10D,c11B,c12F,c12D,gA2,gB2,gB3,wdl,bind_some_,map_some_,oneD_fold]|(apply ifP_in<;>intro)
              exact hpy _ _ _
            ·have c11B : (u.hasF == v.hasF) = false := by simp [c11]
             rw [decide_eq_false (fun h => c11 h.2.2.2.2.2.2.2.2.2.2.2.1)]
             repeat' first|simp (disch := first | omega | assumption | decide | (simp only [List.length_append,List.length_cons,List.length_nil]; omega)) only [go_sem,hm,hz,ht,hr_,rO_app1,rO_app0,hoA,hoB,hplA,hplB,a0,b0,a1,b1,a2,b2,a3,b3,a4,b4,a15,b15,a16,b16,a17,b17,a18,b18,a19,b19,a20,b20,a21,b21,a22,b22,if_true,g2a,g2b,c0F,c0D,c1F,c1D,c2F,c2D,c3B,c5F,c5D,c6B,c7F,c7D,c8D,c9B,c10F,c10D,c11B,wdl,bind_some_,map_some_,oneD_fold]|(apply ifP_in<;>intro)
             refine rF_use hhost ?_
             rintro _ H2 ⟨rfl, T2, rfl⟩
             have gA2 : (H ++ [csA] ++ [csB] ++ T2)[H.length]? = some csA := by simp
             have gB2 : (H ++ [csA] ++ [csB] ++ T2)[H.length + 1]? = some csB := by rw [xgL (by simp)]; simp
             have gB3 : (H ++ [csA] ++ [csB] ++ T2)[(H ++ [csA]).length]? = some csB := by rw [xgL (by simp)]; simp
             repeat' first|simp (disch := first | omega | assumption | decide | (simp only [List.length_append,List.length_cons,List.length_nil]; omega)) only [go_sem,hm,hz,ht,hr_,rO_app1,rO_app0,hoA,hoB,hplA,hplB,a0,b0,a1,b1,a2,b2,a3,b3,a4,b4,a15,b15,a16,b16,a17,b17,a18,b18,a19,b19,a20,b20,a21,b21,a22,b22,if_true,g2a,g2b,c0F,c0D,c1F,c1D,c2F,c2D,c3B,c5F,c5D,c6B,c7F,c7D,c8D,c9B,c10F,c10D,c11B,gA2,gB2,gB3,wdl,bind_some_,map_some_,oneD_fold]|(apply ifP_in<;>intro)
             refine rF_use (hpath (by have := hrp.add ([csA] ++ [csB] ++ T2); simpa using this) (by have := hrq.add ([csA] ++ [csB] ++ T2); simpa using this)) ?_
             rintro _ H3 ⟨rfl, rfl⟩
             repeat' first|simp (disch := first | omega | assumption | decide | (simp only [List.length_append,List.length_cons,List.length_nil]; omega)) only [go_sem,hm,hz,ht,hr_,rO_app1,rO_app0,hoA,hoB,hplA,hplB,a0,b0,a1,b1,a2,b2,a3,b3,a4,b4,a15,b15,a16,b16,a17,b17,a18,b18,a19,b19,a20,b20,a21,b21,a22,b22,if_true,g2a,g2b,c0F,c0D,c1F,c1D,c2F,c2D,c3B,c5F,c5D,c6B,c7F,c7D,c8D,c9B,c10F,c10D,c11B,gA2,gB2,gB3,wdl,bind_some_,map_some_,oneD_fold]|(apply ifP_in<;>intro)
             exact hpy _ _ _
           ·have c10F : (u.q = v.q) = False := eq_false c10
            have c10D : decide (u.q = v.q) = false := decide_eq_false c10
            rw [decide_eq_false (fun h => c10 h.2.2.2.2.2.2.2.2.2.2.1)]
            repeat' first|simp (disch := first | omega | assumption | decide | (simp only [List.length_append,List.length_cons,List.length_nil]; omega)) only [go_sem,hm,hz,ht,hr_,rO_app1,rO_app0,hoA,hoB,hplA,hplB,a0,b0,a1,b1,a2,b2,a3,b3,a4,b4,a15,b15,a16,b16,a17,b17,a18,b18,a19,b19,a20,b20,a21,b21,a22,b22,if_true,g2a,g2b,c0F,c0D,c1F,c1D,c2F,c2D,c3B,c5F,c5D,c6B,c7F,c7D,c8D,c9B,c10F,c10D,wdl,bind_some_,map_some_,oneD_fold]|(apply ifP_in<;>intro)
            refine rF_use hhost ?_
            rintro _ H2 ⟨rfl, T2, rfl⟩
            have gA2 : (H ++ [csA] ++ [csB] ++ T2)[H.length]? = some csA := by simp
            have gB2 : (H ++ [csA] ++ [csB] ++ T2)[H.length + 1]? = some csB := by rw [xgL (by simp)]; simp
            have gB3 : (H ++ [csA] ++ [csB] ++ T2)[(H ++ [csA]).length]? = some csB := by rw [xgL (by simp)]; simp
            repeat' first|simp (disch := first | omega | assumption | decide | (simp only [List.length_append,List.length_cons,List.length_nil]; omega)) only [go_sem,hm,hz,ht,hr_,rO_app1,rO_app0,hoA,hoB,hplA,hplB,a0,b0,a1,b1,a2,b2,a3,b3,a4,b4,a15,b15,a16,b16,a17,b17,a18,b18,a19,b19,a20,b20,a21,b21,a22,b22,if_true,g2a,g2b,c0F,c0D,c1F,c1D,c2F,c2D,c3B,c5F,c5D,c6B,c7F,c7D,c8D,c9B,c10F,c10D,gA2,gB2,gB3,wdl,bind_some_,map_some_,oneD_fold]|(apply ifP_in<;>intro)
            refine rF_use (hpath (by have := hrp.add ([csA] ++ [csB] ++ T2); simpa using this) (by have := hrq.add ([csA] ++ [csB] ++ T2); simpa using this)) ?_
            rintro _ H3 ⟨rfl, rfl⟩
            repeat' first|simp (disch := first | omega | assumption | decide | (simp only [List.length_append,List.length_cons,List.length_nil]; omega)) only [go_sem,hm,hz,ht,hr_,rO_app1,rO_app0,hoA,hoB,hplA,hplB,a0,b0,a1,b1,a2,b2,a3,b3,a4,b4,a15,b15,a16,b16,a17,b17,a18,b18,a19,b19,a20,b20,a21,b21,a22,b22,if_true,g2a,g2b,c0F,c0D,c1F,c1D,c2F,c2D,c3B,c5F,c5D,c6B,c7F,c7D,c8D,c9B,c10F,c10D,gA2,gB2,gB3,wdl,bind_some_,map_some_,oneD_fold]|(apply ifP_in<;>intro)
            exact hpy _ _ _
          ·have c9B : (u.hasQ == v.hasQ) = false := by simp [c9]
           rw [decide_eq_false (fun h => c9 h.2.2.2.2.2.2.2.2.2.1)]
           repeat' first|simp (disch := first | omega | assumption | decide | (simp only [List.length_append,List.length_cons,List.length_nil]; omega)) only [go_sem,hm,hz,ht,hr_,rO_app1,rO_app0,hoA,hoB,hplA,hplB,a0,b0,a1,b1,a2,b2,a3,b3,a4,b4,a15,b15,a16,b16,a17,b17,a18,b18,a19,b19,a20,b20,a21,b21,a22,b22,if_true,g2a,g2b,c0F,c0D,c1F,c1D,c2F,c2D,c3B,c5F,c5D,c6B,c7F,c7D,c8D,c9B,wdl,bind_some_,map_some_,oneD_fold]|(apply ifP_in<;>intro)
           refine rF_use hhost ?_
           rintro _ H2 ⟨rfl, T2, rfl⟩
           have gA2 : (H ++ [csA] ++ [csB] ++ T2)[H.length]? = some csA := by simp
           have gB2 : (H ++ [csA] ++ [csB] ++ T2)[H.length + 1]? = some csB := by rw [xgL (by simp)]; simp
           have gB3 : (H ++ [csA] ++ [csB] ++ T2)[(H ++ [csA]).length]? = some csB := by rw [xgL (by simp)]; simp
           repeat' first|simp (disch := first | omega | assumption | decide | (simp only [List.length_append,List.length_cons,List.length_nil]; omega)) only [go_sem,hm,hz,ht,hr_,rO_app1,rO_app0,hoA,hoB,hplA,hplB,a0,b0,a1,b1,a2,b2,a3,b3,a4,b4,a15,b15,a16,b16,a17,b17,a18,b18,a19,b19,a20,b20,a21,b21,a22,b22,if_true,g2a,g2b,c0F,c0D,c1F,c1D,c2F,c2D,c3B,c5F,c5D,c6B,c7F,c7D,c8D,c9B,gA2,gB2,gB3,wdl,bind_some_,map_some_,oneD_fold]|(apply ifP_in<;>intro)
           refine rF_use (hpath (by have := hrp.add ([csA] ++ [csB] ++ T2); simpa using this) (by have := hrq.add ([csA] ++ [csB] ++ T2); simpa using this)) ?_
           rintro _ H3 ⟨rfl, rfl⟩
           repeat' first|simp (disch := first | omega | assumption | decide | (simp only [List.length_append,List.length_cons,List.length_nil]; omega)) only [go_sem,hm,hz,ht,hr_,rO_app1,rO_app0,hoA,hoB,hplA,hplB,a0,b0,a1,b1,a2,b2,a3,b3,a4,b4,a15,b15,a16,b16,a17,b17,a18,b18,a19,b19,a20,b20,a21,b21,a22,b22,if_true,g2a,g2b,c0F,c0D,c1F,c1D,c2F,c2D,c3B,c5F,c5D,c6B,c7F,c7D,c8D,c9B,gA2,gB2,gB3,wdl,bind_some_,map_some_,oneD_fold]|(apply ifP_in<;>intro)
           exact hpy _ _ _
         ·have c8D : decide (u.path = v.path) = false := decide_eq_false c8
          rw [c8D] at hpath
          rw [decide_eq_false (fun h => c8 h.2.2.2.2.2.2.2.2.1)]
          repeat' first|simp (disch := first | omega | assumption | decide | (simp only [List.length_append,List.length_cons,List.length_nil]; omega)) only [go_sem,hm,hz,ht,hr_,rO_app1,rO_app0,hoA,hoB,hplA,hplB,a0,b0,a1,b1,a2,b2,a3,b3,a4,b4,a15,b15,a16,b16,a17,b17,a18,b18,a19,b19,a20,b20,a21,b21,a22,b22,if_true,g2a,g2b,c0F,c0D,c1F,c1D,c2F,c2D,c3B,c5F,c5D,c6B,c7F,c7D,c8D,wdl,bind_some_,map_some_,oneD_fold]|(apply ifP_in<;>intro)
          refine rF_use hhost ?_
          rintro _ H2 ⟨rfl, T2, rfl⟩
          have gA2 : (H ++ [csA] ++ [csB] ++ T2)[H.length]? = some csA := by simp
          have gB2 : (H ++ [csA] ++ [csB] ++ T2)[H.length + 1]? = some csB := by rw [xgL (by simp)]; simp
          have gB3 : (H ++ [csA] ++ [csB] ++ T2)[(H ++ [csA]).length]? = some csB := by rw [xgL (by simp)]; simp
          repeat' first|simp (disch := first | omega | assumption | decide | (simp only [List.length_append,List.length_cons,List.length_nil]; omega)) only [go_sem,hm,hz,ht,hr_,rO_app1,rO_app0,hoA,hoB,hplA,hplB,a0,b0,a1,b1,a2,b2,a3,b3,a4,b4,a15,b15,a16,b16,a17,b17,a18,b18,a19,b19,a20,b20,a21,b21,a22,b22,if_true,g2a,g2b,c0F,c0D,c1F,c1D,c2F,c2D,c3B,c5F,c5D,c6B,c7F,c7D,c8D,gA2,gB2,gB3,wdl,bind_some_,map_some_,oneD_fold]|(apply ifP_in<;>intro)
          refine rF_use (hpath (by have := hrp.add ([csA] ++ [csB] ++ T2); simpa using this) (by have := hrq.add ([csA] ++ [csB] ++ T2); simpa using this)) ?_
          rintro _ H3 ⟨rfl, rfl⟩
          repeat' first|simp (disch := first | omega | assumption | decide | (simp only [List.length_append,List.length_cons,List.length_nil]; omega)) only [go_sem,hm,hz,ht,hr_,rO_app1,rO_app0,hoA,hoB,hplA,hplB,a0,b0,a1,b1,a2,b2,a3,b3,a4,b4,a15,b15,a16,b16,a17,b17,a18,b18,a19,b19,a20,b20,a21,b21,a22,b22,if_true,g2a,g2b,c0F,c0D,c1F,c1D,c2F,c2D,c3B,c5F,c5D,c6B,c7F,c7D,c8D,gA2,gB2,gB3,wdl,bind_some_,map_some_,oneD_fold]|(apply ifP_in<;>intro)
          exact hpy _ _ _
        ·have c7F : (u.text = v.text) = False := eq_false c7
         have c7D : decide (u.text = v.text) = false := decide_eq_false c7
         rw [decide_eq_false (fun h => c7 h.2.2.2.2.2.2.2.1)]
         repeat' first|simp (disch := first | omega | assumption | decide | (simp only [List.length_append,List.length_cons,List.length_nil]; omega)) only [go_sem,hm,hz,ht,hr_,rO_app1,rO_app0,hoA,hoB,hplA,hplB,a0,b0,a1,b1,a2,b2,a3,b3,a4,b4,a15,b15,a16,b16,a17,b17,a18,b18,a19,b19,a20,b20,a21,b21,a22,b22,if_true,g2a,g2b,c0F,c0D,c1F,c1D,c2F,c2D,c3B,c5F,c5D,c6B,c7F,c7D,wdl,bind_some_,map_some_,oneD_fold]|(apply ifP_in<;>intro)
         refine rF_use hhost ?_
         rintro _ H2 ⟨rfl, T2, rfl⟩
         have gA2 : (H ++ [csA] ++ [csB] ++ T2)[H.length]? = some csA := by simp
         have gB2 : (H ++ [csA] ++ [csB] ++ T2)[H.length + 1]? = some csB := by rw [xgL (by simp)]; simp
         have gB3 : (H ++ [csA] ++ [csB] ++ T2)[(H ++ [csA]).length]? = some csB := by rw [xgL (by simp)]; simp
         repeat' first|simp (disch := first | omega | assumption | decide | (simp only [List.length_append,List.length_cons,List.length_nil]; omega)) only [go_sem,hm,hz,ht,hr_,rO_app1,rO_app0,hoA,hoB,hplA,hplB,a0,b0,a1,b1,a2,b2,a3,b3,a4,b4,a15,b15,a16,b16,a17,b17,a18,b18,a19,b19,a20,b20,a21,b21,a22,b22,if_true,g2a,g2b,c0F,c0D,c1F,c1D,c2F,c2D,c3B,c5F,c5D,c6B,c7F,c7D,gA2,gB2,gB3,wdl,bind_some_,map_some_,oneD_fold]|(apply ifP_in<;>intro)
         exact hpy _ _ _
       ·have c6B : (u.dark == v.dark) = false := by simp [c6]
        rw [decide_eq_false (fun h => c6 h.2.2.2.2.2.2.1)]
        repeat' first|simp (disch := first | omega | assumption | decide | (simp only [List.length_append,List.length_cons,List.length_nil]; omega)) only [go_sem,hm,hz,ht,hr_,rO_app1,rO_app0,hoA,hoB,hplA,hplB,a0,b0,a1,b1,a2,b2,a3,b3,a4,b4,a15,b15,a16,b16,a17,b17,a18,b18,a19,b19,a20,b20,a21,b21,a22,b22,if_true,g2a,g2b,c0F,c0D,c1F,c1D,c2F,c2D,c3B,c5F,c5D,c6B,wdl,bind_some_,map_some_,oneD_fold]|(apply ifP_in<;>intro)
        refine rF_use hhost ?_
        rintro _ H2 ⟨rfl, T2, rfl⟩
        have gA2 : (H ++ [csA] ++ [csB] ++ T2)[H.length]? = some csA := by simp
        have gB2 : (H ++ [csA] ++ [csB] ++ T2)[H.length + 1]? = some csB := by rw [xgL (by simp)]; simp
        have gB3 : (H ++ [csA] ++ [csB] ++ T2)[(H ++ [csA]).length]? = some csB := by rw [xgL (by simp)]; simp
        repeat' first|simp (disch := first | omega | assumption | decide | (simp only [List.length_append,List.length_cons,List.length_nil]; omega)) only [go_sem,hm,hz,ht,hr_,rO_app1,rO_app0,hoA,hoB,hplA,hplB,a0,b0,a1,b1,a2,b2,a3,b3,a4,b4,a15,b15,a16,b16,a17,b17,a18,b18,a19,b19,a20,b20,a21,b21,a22,b22,if_true,g2a,g2b,c0F,c0D,c1F,c1D,c2F,c2D,c3B,c5F,c5D,c6B,gA2,gB2,gB3,wdl,bind_some_,map_some_,oneD_fold]|(apply ifP_in<;>intro)
        exact hpy _ _ _
      ·have c5F : (u.port = v.port) = False := eq_false c5
       have c5D : decide (u.port = v.port) = false := decide_eq_false c5
       rw [decide_eq_false (fun h => c5 h.2.2.2.2.2.1)]
       repeat' first|simp (disch := first | omega | assumption | decide | (simp only [List.length_append,List.length_cons,List.length_nil]; omega)) only [go_sem,hm,hz,ht,hr_,rO_app1,rO_app0,hoA,hoB,hplA,hplB,a0,b0,a1,b1,a2,b2,a3,b3,a4,b4,a15,b15,a16,b16,a17,b17,a18,b18,a19,b19,a20,b20,a21,b21,a22,b22,if_true,g2a,g2b,c0F,c0D,c1F,c1D,c2F,c2D,c3B,c5F,c5D,wdl,bind_some_,map_some_,oneD_fold]|(apply ifP_in<;>intro)
       refine rF_use hhost ?_
       rintro _ H2 ⟨rfl, T2, rfl⟩
       have gA2 : (H ++ [csA] ++ [csB] ++ T2)[H.length]? = some csA := by simp
       have gB2 : (H ++ [csA] ++ [csB] ++ T2)[H.length + 1]? = some csB := by rw [xgL (by simp)]; simp
       have gB3 : (H ++ [csA] ++ [csB] ++ T2)[(H ++ [csA]).length]? = some csB := by rw [xgL (by simp)]; simp
       repeat' first|simp (disch := first | omega | assumption | decide | (simp only [List.length_append,List.length_cons,List.length_nil]; omega)) only [go_sem,hm,hz,ht,hr_,rO_app1,rO_app0,hoA,hoB,hplA,hplB,a0,b0,a1,b1,a2,b2,a3,b3,a4,b4,a15,b15,a16,b16,a17,b17,a18,b18,a19,b19,a20,b20,a21,b21,a22,b22,if_true,g2a,g2b,c0F,c0D,c1F,c1D,c2F,c2D,c3B,c5F,c5D,gA2,gB2,gB3,wdl,bind_some_,map_some_,oneD_fold]|(apply ifP_in<;>intro)
       exact hpy _ _ _
     ·obtain rfl : he = false := by simpa using c4
      rw [decide_eq_false (fun h => by have := h.2.2.2.2.1; cases this)]
      repeat' first|simp (disch := first | omega | assumption | decide | (simp only [List.length_append,List.length_cons,List.length_nil]; omega)) only [go_sem,hm,hz,ht,hr_,rO_app1,rO_app0,hoA,hoB,hplA,hplB,a0,b0,a1,b1,a2,b2,a3,b3,a4,b4,a15,b15,a16,b16,a17,b17,a18,b18,a19,b19,a20,b20,a21,b21,a22,b22,if_true,g2a,g2b,c0F,c0D,c1F,c1D,c2F,c2D,c3B,wdl,bind_some_,map_some_,oneD_fold]|(apply ifP_in<;>intro)
      refine rF_use hhost ?_
      rintro _ H2 ⟨rfl, T2, rfl⟩
      have gA2 : (H ++ [csA] ++ [csB] ++ T2)[H.length]? = some csA := by simp
      have gB2 : (H ++ [csA] ++ [csB] ++ T2)[H.length + 1]? = some csB := by rw [xgL (by simp)]; simp
      have gB3 : (H ++ [csA] ++ [csB] ++ T2)[(H ++ [csA]).length]? = some csB := by rw [xgL (by simp)]; simp
      repeat' first|simp (disch := first | omega | assumption | decide | (simp only [List.length_append,List.length_cons,List.length_nil]; omega)) only [go_sem,hm,hz,ht,hr_,rO_app1,rO_app0,hoA,hoB,hplA,hplB,a0,b0,a1,b1,a2,b2,a3,b3,a4,b4,a15,b15,a16,b16,a17,b17,a18,b18,a19,b19,a20,b20,a21,b21,a22,b22,if_true,g2a,g2b,c0F,c0D,c1F,c1D,c2F,c2D,c3B,gA2,gB2,gB3,wdl,bind_some_,map_some_,oneD_fold]|(apply ifP_in<;>intro)
      exact hpy _ _ _
    ·have c3B : (u.has == v.has) = false := by simp [c3]
     rw [decide_eq_false (fun h => c3 h.2.2.2.1)]
     repeat' first|simp (disch := first | omega | assumption | decide | (simp only [List.length_append,List.length_cons,List.length_nil]; omega)) only [go_sem,hm,hz,ht,hr_,rO_app1,rO_app0,hoA,hoB,hplA,hplB,a0,b0,a1,b1,a2,b2,a3,b3,a4,b4,a15,b15,a16,b16,a17,b17,a18,b18,a19,b19,a20,b20,a21,b21,a22,b22,if_true,g2a,g2b,c0F,c0D,c1F,c1D,c2F,c2D,c3B,wdl,bind_some_,map_some_,oneD_fold]|(apply ifP_in<;>intro)
     exact hpx _ _
   ·have c2F : (u.pass = v.pass) = False := eq_false c2
    have c2D : decide (u.pass = v.pass) = false := decide_eq_false c2
    rw [decide_eq_false (fun h => c2 h.2.2.1)]
    repeat' first|simp (disch := first | omega | assumption | decide | (simp only [List.length_append,List.length_cons,List.length_nil]; omega)) only [go_sem,hm,hz,ht,hr_,rO_app1,rO_app0,hoA,hoB,hplA,hplB,a0,b0,a1,b1,a2,b2,a3,b3,a4,b4,a15,b15,a16,b16,a17,b17,a18,b18,a19,b19,a20,b20,a21,b21,a22,b22,if_true,g2a,g2b,c0F,c0D,c1F,c1D,c2F,c2D,wdl,bind_some_,map_some_,oneD_fold]|(apply ifP_in<;>intro)
    exact hpx _ _
  ·have c1F : (u.user = v.user) = False := eq_false c1
   have c1D : decide (u.user = v.user) = false := decide_eq_false c1
   rw [decide_eq_false (fun h => c1 h.2.1)]
   repeat' first|simp (disch := first | omega | assumption | decide | (simp only [List.length_append,List.length_cons,List.length_nil]; omega)) only [go_sem,hm,hz,ht,hr_,rO_app1,rO_app0,hoA,hoB,hplA,hplB,a0,b0,a1,b1,a2,b2,a3,b3,a4,b4,a15,b15,a16,b16,a17,b17,a18,b18,a19,b19,a20,b20,a21,b21,a22,b22,if_true,g2a,g2b,c0F,c0D,c1F,c1D,wdl,bind_some_,map_some_,oneD_fold]|(apply ifP_in<;>intro)
   exact hpx _ _
 ·have c0F : (u.scheme = v.scheme) = False := eq_false c0
  have c0D : decide (u.scheme = v.scheme) = false := decide_eq_false c0
  rw [decide_eq_false (fun h => c0 h.1)]
  repeat' first|simp (disch := first | omega | assumption | decide | (simp only [List.length_append,List.length_cons,List.length_nil]; omega)) only [go_sem,hm,hz,ht,hr_,rO_app1,rO_app0,hoA,hoB,hplA,hplB,a0,b0,a1,b1,a2,b2,a3,b3,a4,b4,a15,b15,a16,b16,a17,b17,a18,b18,a19,b19,a20,b20,a21,b21,a22,b22,if_true,g2a,g2b,c0F,c0D,wdl,bind_some_,map_some_,oneD_fold]|(apply ifP_in<;>intro)
  exact hpx _ _
set_option maxRecDepth 100000 in
set_option maxHeartbeats 8000000 in
theorem same_u (u v : UrlV) (p q : AV) (hp1 : p.one = true) (hq1 : q.one = true) (h8 : u.host.l.length = 8) (h8' : v.host.l.length = 8) (hlu : u.path.length ≤ 140737488355328) (hlv : v.path.length ≤ 140737488355328) (hrp : ReadsS H (plainA p) u.path) (hrq : ReadsS H (plainA q) v.path) :
  WF Tryz.prog cfg 29 [.agg (ucells u p), .agg (ucells v q)] H (fun r H' => r = .b (eqU u v) ∧ H <+: H') := by
 have hhost := bin_hostE u.host v.host h8 h8'
 have hpath := fun {K9 : Heap} (ha : ReadsS K9 (plainA p) u.path) (hb : ReadsS K9 (plainA q) v.path) => equal_w (H := K9) u.path v.path hlu hlv ha hb
 have hm : ∀ d, cfg.muF 29 d = (false) := fun _ => rfl
 have hz : ∀ d, cfg.fzF 29 d = (false) := fun _ => rfl
 have ht : ∀ d, cfg.tkF 29 d = (false) := fun _ => rfl
 have hr_ : ∀ g, cfg.raw g = (g == 253 || g == 225 || g == 53) := fun _ => rfl
 refine rF_fn rfl rfl Tryz.func29 rfl ?_
 have heq : eqU u v = decide (u.scheme = v.scheme ∧ u.user = v.user ∧ u.pass = v.pass ∧ u.has = v.has ∧ hostE u.host v.host = true ∧ u.port = v.port ∧ u.dark = v.dark ∧ u.text = v.text ∧ u.path = v.path ∧ u.hasQ = v.hasQ ∧ u.q = v.q ∧ u.hasF = v.hasF ∧ u.f = v.f) := rfl
 rw [heq]
 clear heq
 have honeA : p.one = true := hp1
 have hoA := u_one u p honeA
 have hnA := u_len u p h8
 have hplA := fun {x : Option AV} => u_pl u p honeA (x := x)
 have a0 := fun {s : Option Nat} => u_k0 u p (s := s)
 have a1 := fun {s : Option Nat} => u_k1 u p (s := s)
 have a2 := fun {s : Option Nat} => u_k2 u p (s := s)
 have a3 := fun {s : Option Nat} => u_k3 u p (s := s)
 have a4 := u_k4 u p h8
 have a15 := fun {s : Option Nat} => u_k15 u p h8 (s := s)
 have a16 := fun {s : Option Nat} => u_k16 u p h8 (s := s)
 have a17 := fun {s : Option Nat} => u_k17 u p h8 (s := s)
 have a18 := fun {s : Option Nat} => u_k18 u p h8 (s := s)
 have a19 := fun {s : Option Nat} => u_k19 u p h8 (s := s)
 have a20 := fun {s : Option Nat} => u_k20 u p h8 (s := s)
 have a21 := fun {s : Option Nat} => u_k21 u p h8 (s := s)
 have a22 := fun {s : Option Nat} => u_k22 u p h8 (s := s)
 generalize ucells u p = csA at *
 have honeB : q.one = true := hq1
 have hoB := u_one v q honeB
 have hnB := u_len v q h8'
 have hplB := fun {x : Option AV} => u_pl v q honeB (x := x)
 have b0 := fun {s : Option Nat} => u_k0 v q (s := s)
 have b1 := fun {s : Option Nat} => u_k1 v q (s := s)
 have b2 := fun {s : Option Nat} => u_k2 v q (s := s)
 have b3 := fun {s : Option Nat} => u_k3 v q (s := s)
 have b4 := u_k4 v q h8'
 have b15 := fun {s : Option Nat} => u_k15 v q h8' (s := s)
 have b16 := fun {s : Option Nat} => u_k16 v q h8' (s := s)
 have b17 := fun {s : Option Nat} => u_k17 v q h8' (s := s)
 have b18 := fun {s : Option Nat} => u_k18 v q h8' (s := s)
 have b19 := fun {s : Option Nat} => u_k19 v q h8' (s := s)
 have b20 := fun {s : Option Nat} => u_k20 v q h8' (s := s)
 have b21 := fun {s : Option Nat} => u_k21 v q h8' (s := s)
 have b22 := fun {s : Option Nat} => u_k22 v q h8' (s := s)
 generalize ucells v q = csB at *
 have hpx : ∀ x y : List AV, H <+: H ++ [x] ++ [y] := fun x y => by rw [List.append_assoc]; exact List.prefix_append _ _
 have hpy : ∀ (x y : List AV) (T : Heap), H <+: H ++ [x] ++ [y] ++ T := fun x y T => by rw [List.append_assoc, List.append_assoc]; exact List.prefix_append _ _
 generalize u.host.cells = hcA at *
 generalize v.host.cells = hcB at *
 generalize hostE u.host v.host = he at *
 by_cases c0 : u.scheme = v.scheme
 ·have c0F : (u.scheme = v.scheme) = True := eq_true c0
  have c0D : decide (u.scheme = v.scheme) = true := decide_eq_true c0
  by_cases c1 : u.user = v.user
  ·have c1F : (u.user = v.user) = True := eq_true c1
   have c1D : decide (u.user = v.user) = true := decide_eq_true c1
   by_cases c2 : u.pass = v.pass
   ·have c2F : (u.pass = v.pass) = True := eq_true c2
    have c2D : decide (u.pass = v.pass) = true := decide_eq_true c2
    by_cases c3 : u.has = v.has
    ·have c3B : (u.has == v.has) = true := by simp [c3]
     by_cases c4 : he = true
     ·subst c4
      by_cases c5 : u.port = v.port
      ·have c5F : (u.port = v.port) = True := eq_true c5
       have c5D : decide (u.port = v.port) = true := decide_eq_true c5
       by_cases c6 : u.dark = v.dark
       ·have c6B : (u.dark == v.dark) = true := by simp [c6]
        by_cases c7 : u.text = v.text
        ·have c7F : (u.text = v.text) = True := eq_true c7
         have c7D : decide (u.text = v.text) = true := decide_eq_true c7
         by_cases c8 : u.path = v.path
         ·have c8D : decide (u.path = v.path) = true := decide_eq_true c8
          rw [c8D] at hpath
          by_cases c9 : u.hasQ = v.hasQ
          ·have c9B : (u.hasQ == v.hasQ) = true := by simp [c9]
           by_cases c10 : u.q = v.q
           ·have c10F : (u.q = v.q) = True := eq_true c10
            have c10D : decide (u.q = v.q) = true := decide_eq_true c10
            by_cases c11 : u.hasF = v.hasF
            ·have c11B : (u.hasF == v.hasF) = true := by simp [c11]
             by_cases c12 : u.f = v.f
             ·have c12F : (u.f = v.f) = True := eq_true c12
              have c12D : decide (u.f = v.f) = true := decide_eq_true c12
              rw [decide_eq_true (⟨c0, c1, c2, c3, rfl, c5, c6, c7, c8, c9, c10, c11, c12⟩ : _)]
              repeat' first|simp (disch := first | omega | assumption | decide | (simp only [List.length_append,List.length_cons,List.length_nil]; omega)) only [go_sem,hm,hz,ht,hr_,hhost,rO_app1,rO_app0,hoA,hoB,hplA,hplB,a0,b0,a1,b1,a2,b2,a3,b3,a4,b4,a15,b15,a16,b16,a17,b17,a18,b18,a19,b19,a20,b20,a21,b21,a22,b22,if_true,g2a,g2b,c0F,c0D,c1F,c1D,c2F,c2D,c3B,c5F,c5D,c6B,c7F,c7D,c8D,c9B,c10F,c10D,c11B,c12F,c12D,wdl,bind_some_,map_some_,oneD_fold]|(apply ifP_in<;>intro)
              refine rF_use (hpath (by have := hrp.add ([csA] ++ [csB]); simpa using this) (by have := hrq.add ([csA] ++ [csB]); simpa using this)) ?_
              rintro _ H3 ⟨rfl, rfl⟩
              repeat' first|simp (disch := first | omega | assumption | decide | (simp only [List.length_append,List.length_cons,List.length_nil]; omega)) only [go_sem,hm,hz,ht,hr_,hhost,rO_app1,rO_app0,hoA,hoB,hplA,hplB,a0,b0,a1,b1,a2,b2,a3,b3,a4,b4,a15,b15,a16,b16,a17,b17,a18,b18,a19,b19,a20,b20,a21,b21,a22,b22,if_true,g2a,g2b,c0F,c0D,c1F,c1D,c2F,c2D,c3B,c5F,c5D,c6B,c7F,c7D,c8D,c9B,c10F,c10D,c11B,c12F,c12D,hhost,wdl,bind_some_,map_some_,oneD_fold]|(apply ifP_in<;>intro)
              exact hpx _ _
             ·have c12F : (u.f = v.f) = False := eq_false c12
              have c12D : decide (u.f = v.f) = false := decide_eq_false c12
              rw [decide_eq_false (fun h => c12 h.2.2.2.2.2.2.2.2.2.2.2.2)]
              repeat' first|simp (disch := first | omega | assumption | decide | (simp only [List.length_append,List.length_cons,List.length_nil]; omega)) only [go_sem,hm,hz,ht,hr_,hhost,rO_app1,rO_app0,hoA,hoB,hplA,hplB,a0,b0,a1,b1,a2,b2,a3,b3,a4,b4,a15,b15,a16,b16,a17,b17,a18,b18,a19,b19,a20,b20,a21,b21,a22,b22,if_true,g2a,g2b,c0F,c0D,c1F,c1D,c2F,c2D,c3B,c5F,c5D,c6B,c7F,c7D,c8D,c9B,c10F,c10D,c11B,c12F,c12D,wdl,bind_some_,map_some_,oneD_fold]|(apply ifP_in<;>intro)
              refine rF_use (hpath (by have := hrp.add ([csA] ++ [csB]); simpa using this) (by have := hrq.add ([csA] ++ [csB]); simpa using this)) ?_
              rintro _ H3 ⟨rfl, rfl⟩
              repeat' first|simp (disch := first | omega | assumption | decide | (simp only [List.length_append,List.length_cons,List.length_nil]; omega)) only [go_sem,hm,hz,ht,hr_,hhost,rO_app1,rO_app0,hoA,hoB,hplA,hplB,a0,b0,a1,b1,a2,b2,a3,b3,a4,b4,a15,b15,a16,b16,a17,b17,a18,b18,a19,b19,a20,b20,a21,b21,a22,b22,if_true,g2a,g2b,c0F,c0D,c1F,c1D,c2F,c2D,c3B,c5F,c5D,c6B,c7F,c7D,c8D,c9B,c10F,c10D,c11B,c12F,c12D,hhost,wdl,bind_some_,map_some_,oneD_fold]|(apply ifP_in<;>intro)
              exact hpx _ _
            ·have c11B : (u.hasF == v.hasF) = false := by simp [c11]
             rw [decide_eq_false (fun h => c11 h.2.2.2.2.2.2.2.2.2.2.2.1)]
             repeat' first|simp (disch := first | omega | assumption | decide | (simp only [List.length_append,List.length_cons,List.length_nil]; omega)) only [go_sem,hm,hz,ht,hr_,hhost,rO_app1,rO_app0,hoA,hoB,hplA,hplB,a0,b0,a1,b1,a2,b2,a3,b3,a4,b4,a15,b15,a16,b16,a17,b17,a18,b18,a19,b19,a20,b20,a21,b21,a22,b22,if_true,g2a,g2b,c0F,c0D,c1F,c1D,c2F,c2D,c3B,c5F,c5D,c6B,c7F,c7D,c8D,c9B,c10F,c10D,c11B,wdl,bind_some_,map_some_,oneD_fold]|(apply ifP_in<;>intro)
             refine rF_use (hpath (by have := hrp.add ([csA] ++ [csB]); simpa using this) (by have := hrq.add ([csA] ++ [csB]); simpa using this)) ?_
             rintro _ H3 ⟨rfl, rfl⟩
             repeat' first|simp (disch := first | omega | assumption | decide | (simp only [List.length_append,List.length_cons,List.length_nil]; omega)) only [go_sem,hm,hz,ht,hr_,hhost,rO_app1,rO_app0,hoA,hoB,hplA,hplB,a0,b0,a1,b1,a2,b2,a3,b3,a4,b4,a15,b15,a16,b16,a17,b17,a18,b18,a19,b19,a20,b20,a21,b21,a22,b22,if_true,g2a,g2b,c0F,c0D,c1F,c1D,c2F,c2D,c3B,c5F,c5D,c6B,c7F,c7D,c8D,c9B,c10F,c10D,c11B,hhost,wdl,bind_some_,map_some_,oneD_fold]|(apply ifP_in<;>intro)
             exact hpx _ _
           ·have c10F : (u.q = v.q) = False := eq_false c10
            have c10D : decide (u.q = v.q) = false := decide_eq_false c10
            rw [decide_eq_false (fun h => c10 h.2.2.2.2.2.2.2.2.2.2.1)]
            repeat' first|simp (disch := first | omega | assumption | decide | (simp only [List.length_append,List.length_cons,List.length_nil]; omega)) only [go_sem,hm,hz,ht,hr_,hhost,rO_app1,rO_app0,hoA,hoB,hplA,hplB,a0,b0,a1,b1,a2,b2,a3,b3,a4,b4,a15,b15,a16,b16,a17,b17,a18,b18,a19,b19,a20,b20,a21,b21,a22,b22,if_true,g2a,g2b,c0F,c0D,c1F,c1D,c2F,c2D,c3B,c5F,c5D,c6B,c7F,c7D,c8D,c9B,c10F,c10D,wdl,bind_some_,map_some_,oneD_fold]|(apply ifP_in<;>intro)
            refine rF_use (hpath (by have := hrp.add ([csA] ++ [csB]); simpa using this) (by have := hrq.add ([csA] ++ [csB]); simpa using this)) ?_
            rintro _ H3 ⟨rfl, rfl⟩
            repeat' first|simp (disch := first | omega | assumption | decide | (simp only [List.length_append,List.length_cons,List.length_nil]; omega)) only [go_sem,hm,hz,ht,hr_,hhost,rO_app1,rO_app0,hoA,hoB,hplA,hplB,a0,b0,a1,b1,a2,b2,a3,b3,a4,b4,a15,b15,a16,b16,a17,b17,a18,b18,a19,b19,a20,b20,a21,b21,a22,b22,if_true,g2a,g2b,c0F,c0D,c1F,c1D,c2F,c2D,c3B,c5F,c5D,c6B,c7F,c7D,c8D,c9B,c10F,c10D,hhost,wdl,bind_some_,map_some_,oneD_fold]|(apply ifP_in<;>intro)
            exact hpx _ _
          ·have c9B : (u.hasQ == v.hasQ) = false := by simp [c9]
           rw [decide_eq_false (fun h => c9 h.2.2.2.2.2.2.2.2.2.1)]
           repeat' first|simp (disch := first | omega | assumption | decide | (simp only [List.length_append,List.length_cons,List.length_nil]; omega)) only [go_sem,hm,hz,ht,hr_,hhost,rO_app1,rO_app0,hoA,hoB,hplA,hplB,a0,b0,a1,b1,a2,b2,a3,b3,a4,b4,a15,b15,a16,b16,a17,b17,a18,b18,a19,b19,a20,b20,a21,b21,a22,b22,if_true,g2a,g2b,c0F,c0D,c1F,c1D,c2F,c2D,c3B,c5F,c5D,c6B,c7F,c7D,c8D,c9B,wdl,bind_some_,map_some_,oneD_fold]|(apply ifP_in<;>intro)
           refine rF_use (hpath (by have := hrp.add ([csA] ++ [csB]); simpa using this) (by have := hrq.add ([csA] ++ [csB]); simpa using this)) ?_
           rintro _ H3 ⟨rfl, rfl⟩
           repeat' first|simp (disch := first | omega | assumption | decide | (simp only [List.length_append,List.length_cons,List.length_nil]; omega)) only [go_sem,hm,hz,ht,hr_,hhost,rO_app1,rO_app0,hoA,hoB,hplA,hplB,a0,b0,a1,b1,a2,b2,a3,b3,a4,b4,a15,b15,a16,b16,a17,b17,a18,b18,a19,b19,a20,b20,a21,b21,a22,b22,if_true,g2a,g2b,c0F,c0D,c1F,c1D,c2F,c2D,c3B,c5F,c5D,c6B,c7F,c7D,c8D,c9B,hhost,wdl,bind_some_,map_some_,oneD_fold]|(apply ifP_in<;>intro)
           exact hpx _ _
         ·have c8D : decide (u.path = v.path) = false := decide_eq_false c8
          rw [c8D] at hpath
          rw [decide_eq_false (fun h => c8 h.2.2.2.2.2.2.2.2.1)]
          repeat' first|simp (disch := first | omega | assumption | decide | (simp only [List.length_append,List.length_cons,List.length_nil]; omega)) only [go_sem,hm,hz,ht,hr_,hhost,rO_app1,rO_app0,hoA,hoB,hplA,hplB,a0,b0,a1,b1,a2,b2,a3,b3,a4,b4,a15,b15,a16,b16,a17,b17,a18,b18,a19,b19,a20,b20,a21,b21,a22,b22,if_true,g2a,g2b,c0F,c0D,c1F,c1D,c2F,c2D,c3B,c5F,c5D,c6B,c7F,c7D,c8D,wdl,bind_some_,map_some_,oneD_fold]|(apply ifP_in<;>intro)
          refine rF_use (hpath (by have := hrp.add ([csA] ++ [csB]); simpa using this) (by have := hrq.add ([csA] ++ [csB]); simpa using this)) ?_
          rintro _ H3 ⟨rfl, rfl⟩
          repeat' first|simp (disch := first | omega | assumption | decide | (simp only [List.length_append,List.length_cons,List.length_nil]; omega)) only [go_sem,hm,hz,ht,hr_,hhost,rO_app1,rO_app0,hoA,hoB,hplA,hplB,a0,b0,a1,b1,a2,b2,a3,b3,a4,b4,a15,b15,a16,b16,a17,b17,a18,b18,a19,b19,a20,b20,a21,b21,a22,b22,if_true,g2a,g2b,c0F,c0D,c1F,c1D,c2F,c2D,c3B,c5F,c5D,c6B,c7F,c7D,c8D,hhost,wdl,bind_some_,map_some_,oneD_fold]|(apply ifP_in<;>intro)
          exact hpx _ _
        ·have c7F : (u.text = v.text) = False := eq_false c7
         have c7D : decide (u.text = v.text) = false := decide_eq_false c7
         rw [decide_eq_false (fun h => c7 h.2.2.2.2.2.2.2.1)]
         repeat' first|simp (disch := first | omega | assumption | decide | (simp only [List.length_append,List.length_cons,List.length_nil]; omega)) only [go_sem,hm,hz,ht,hr_,hhost,rO_app1,rO_app0,hoA,hoB,hplA,hplB,a0,b0,a1,b1,a2,b2,a3,b3,a4,b4,a15,b15,a16,b16,a17,b17,a18,b18,a19,b19,a20,b20,a21,b21,a22,b22,if_true,g2a,g2b,c0F,c0D,c1F,c1D,c2F,c2D,c3B,c5F,c5D,c6B,c7F,c7D,hhost,wdl,bind_some_,map_some_,oneD_fold]|(apply ifP_in<;>intro)
         exact hpx _ _
       ·have c6B : (u.dark == v.dark) = false := by simp [c6]
        rw [decide_eq_false (fun h => c6 h.2.2.2.2.2.2.1)]
        repeat' first|simp (disch := first | omega | assumption | decide | (simp only [List.length_append,List.length_cons,List.length_nil]; omega)) only [go_sem,hm,hz,ht,hr_,hhost,rO_app1,rO_app0,hoA,hoB,hplA,hplB,a0,b0,a1,b1,a2,b2,a3,b3,a4,b4,a15,b15,a16,b16,a17,b17,a18,b18,a19,b19,a20,b20,a21,b21,a22,b22,if_true,g2a,g2b,c0F,c0D,c1F,c1D,c2F,c2D,c3B,c5F,c5D,c6B,hhost,wdl,bind_some_,map_some_,oneD_fold]|(apply ifP_in<;>intro)
        exact hpx _ _
      ·have c5F : (u.port = v.port) = False := eq_false c5
       have c5D : decide (u.port = v.port) = false := decide_eq_false c5
       rw [decide_eq_false (fun h => c5 h.2.2.2.2.2.1)]
       repeat' first|simp (disch := first | omega | assumption | decide | (simp only [List.length_append,List.length_cons,List.length_nil]; omega)) only [go_sem,hm,hz,ht,hr_,hhost,rO_app1,rO_app0,hoA,hoB,hplA,hplB,a0,b0,a1,b1,a2,b2,a3,b3,a4,b4,a15,b15,a16,b16,a17,b17,a18,b18,a19,b19,a20,b20,a21,b21,a22,b22,if_true,g2a,g2b,c0F,c0D,c1F,c1D,c2F,c2D,c3B,c5F,c5D,hhost,wdl,bind_some_,map_some_,oneD_fold]|(apply ifP_in<;>intro)
       exact hpx _ _
     ·obtain rfl : he = false := by simpa using c4
      rw [decide_eq_false (fun h => by have := h.2.2.2.2.1; cases this)]
      repeat' first|simp (disch := first | omega | assumption | decide | (simp only [List.length_append,List.length_cons,List.length_nil]; omega)) only [go_sem,hm,hz,ht,hr_,hhost,rO_app1,rO_app0,hoA,hoB,hplA,hplB,a0,b0,a1,b1,a2,b2,a3,b3,a4,b4,a15,b15,a16,b16,a17,b17,a18,b18,a19,b19,a20,b20,a21,b21,a22,b22,if_true,g2a,g2b,c0F,c0D,c1F,c1D,c2F,c2D,c3B,hhost,wdl,bind_some_,map_some_,oneD_fold]|(apply ifP_in<;>intro)
      exact hpx _ _
    ·have c3B : (u.has == v.has) = false := by simp [c3]
     rw [decide_eq_false (fun h => c3 h.2.2.2.1)]
     repeat' first|simp (disch := first | omega | assumption | decide | (simp only [List.length_append,List.length_cons,List.length_nil]; omega)) only [go_sem,hm,hz,ht,hr_,hhost,rO_app1,rO_app0,hoA,hoB,hplA,hplB,a0,b0,a1,b1,a2,b2,a3,b3,a4,b4,a15,b15,a16,b16,a17,b17,a18,b18,a19,b19,a20,b20,a21,b21,a22,b22,if_true,g2a,g2b,c0F,c0D,c1F,c1D,c2F,c2D,c3B,wdl,bind_some_,map_some_,oneD_fold]|(apply ifP_in<;>intro)
     exact hpx _ _
   ·have c2F : (u.pass = v.pass) = False := eq_false c2
    have c2D : decide (u.pass = v.pass) = false := decide_eq_false c2
    rw [decide_eq_false (fun h => c2 h.2.2.1)]
    repeat' first|simp (disch := first | omega | assumption | decide | (simp only [List.length_append,List.length_cons,List.length_nil]; omega)) only [go_sem,hm,hz,ht,hr_,hhost,rO_app1,rO_app0,hoA,hoB,hplA,hplB,a0,b0,a1,b1,a2,b2,a3,b3,a4,b4,a15,b15,a16,b16,a17,b17,a18,b18,a19,b19,a20,b20,a21,b21,a22,b22,if_true,g2a,g2b,c0F,c0D,c1F,c1D,c2F,c2D,wdl,bind_some_,map_some_,oneD_fold]|(apply ifP_in<;>intro)
    exact hpx _ _
  ·have c1F : (u.user = v.user) = False := eq_false c1
   have c1D : decide (u.user = v.user) = false := decide_eq_false c1
   rw [decide_eq_false (fun h => c1 h.2.1)]
   repeat' first|simp (disch := first | omega | assumption | decide | (simp only [List.length_append,List.length_cons,List.length_nil]; omega)) only [go_sem,hm,hz,ht,hr_,hhost,rO_app1,rO_app0,hoA,hoB,hplA,hplB,a0,b0,a1,b1,a2,b2,a3,b3,a4,b4,a15,b15,a16,b16,a17,b17,a18,b18,a19,b19,a20,b20,a21,b21,a22,b22,if_true,g2a,g2b,c0F,c0D,c1F,c1D,wdl,bind_some_,map_some_,oneD_fold]|(apply ifP_in<;>intro)
   exact hpx _ _
 ·have c0F : (u.scheme = v.scheme) = False := eq_false c0
  have c0D : decide (u.scheme = v.scheme) = false := decide_eq_false c0
  rw [decide_eq_false (fun h => c0 h.1)]
  repeat' first|simp (disch := first | omega | assumption | decide | (simp only [List.length_append,List.length_cons,List.length_nil]; omega)) only [go_sem,hm,hz,ht,hr_,hhost,rO_app1,rO_app0,hoA,hoB,hplA,hplB,a0,b0,a1,b1,a2,b2,a3,b3,a4,b4,a15,b15,a16,b16,a17,b17,a18,b18,a19,b19,a20,b20,a21,b21,a22,b22,if_true,g2a,g2b,c0F,c0D,wdl,bind_some_,map_some_,oneD_fold]|(apply ifP_in<;>intro)
  exact hpx _ _
end Hs
end Go.Proofs
/- Walks: a copy of an address; the law of addresses as texts. -/
set_option linter.unusedVariables false
set_option linter.unusedSimpArgs false
namespace Go.Proofs
open Go.Lv
namespace Hs
open Pu Ut Utf In
variable {H : Heap}
theorem clone_alt {l : List (List UInt8)} (hl : l.length * 16 ≤ 140737488355328) : ∃ y T, cloneM 16 H [.sl (l.map AV.str)] = some (y, H ++ T) ∧ y.one = true ∧ ((y = .ow [] 0 ∧ l = [] ∧ T = []) ∨ (y = .mr H.length 0 l.length 1 false ∧ T = [l.map AV.str] ∧ 0 < l.length)) := by
 cases l with
 | nil => exact ⟨_, [], by rw [List.append_nil]; rfl, rfl, .inl ⟨rfl, rfl, rfl⟩⟩
 | cons x l =>
  refine ⟨.mr H.length 0 (x :: l).length 1 false, [(x :: l).map AV.str], ?_, rfl, .inr ⟨rfl, rfl, by simp⟩⟩
  unfold cloneM
  simp only
  rw [if_neg (by simp), if_pos ⟨by rw [List.length_map]; exact hl, by rw [List.length_map]; omega, all_cell1 _⟩, List.length_map]
theorem clone_reads {l : List (List UInt8)} {y : AV} {T K : Heap} {n : Nat} (h : (y = .ow [] 0 ∧ l = [] ∧ T = []) ∨ (y = .mr n 0 l.length 1 false ∧ T = [l.map AV.str] ∧ 0 < l.length)) (hn : n = K.length) : ReadsS (K ++ T) (plainA y) l := by
 subst hn
 rcases h with ⟨rfl, rfl, rfl⟩ | ⟨rfl, rfl, h0⟩
 ·exact .inl rfl
 ·exact .inr ⟨K.length, 0, l, rfl, by simp, by simp, h0⟩
def zu : List AV := [AV.str [], AV.str [], AV.str [], AV.v (Value.bool false), AV.v (Value.int IntKind.i64 0), AV.str [],
                AV.v (Value.int IntKind.u32 0), AV.v (Value.int IntKind.u16 0), AV.v (Value.int IntKind.u16 0),
                AV.v (Value.int IntKind.u16 0), AV.v (Value.int IntKind.u16 0), AV.v (Value.int IntKind.u16 0),
                AV.v (Value.int IntKind.u16 0), AV.v (Value.int IntKind.u16 0), AV.v (Value.int IntKind.u16 0),
                AV.v (Value.int IntKind.i64 0), AV.v (Value.bool false), AV.str [], nilA, AV.v (Value.bool false),
                AV.str [], AV.v (Value.bool false), AV.str []]
theorem ZU : [AV.str [], AV.str [], AV.str [], AV.v (Value.bool false), AV.v (Value.int IntKind.i64 0), AV.str [],
                AV.v (Value.int IntKind.u32 0), AV.v (Value.int IntKind.u16 0), AV.v (Value.int IntKind.u16 0),
                AV.v (Value.int IntKind.u16 0), AV.v (Value.int IntKind.u16 0), AV.v (Value.int IntKind.u16 0),
                AV.v (Value.int IntKind.u16 0), AV.v (Value.int IntKind.u16 0), AV.v (Value.int IntKind.u16 0),
                AV.v (Value.int IntKind.i64 0), AV.v (Value.bool false), AV.str [], nilA, AV.v (Value.bool false),
                AV.str [], AV.v (Value.bool false), AV.str []] = zu := rfl
theorem zu_len : zu.length = 23 := rfl
theorem zu_one : zu.all AV.one = true := rfl
theorem storeUC {P : Program} {t : TypeId} [h1 : SizeIs P t 1] {cs zs : List AV} {p : AV} {T : Heap} (hl : cs.length = 23) (ho : cs.all AV.one = true) (hp : p.one = true) : storeC P t (H ++ [cs] ++ [zs] ++ T) H.length 18 p cs = some (H ++ [cs.take 18 ++ [p] ++ cs.drop 19] ++ [zs] ++ T) := by
 unfold storeC
 simp only [h1.h, Option.bind_some, cells_of1 hp]
 rw [if_pos ⟨rfl, by simp [hp], by omega, by omega, plainRow_one ho⟩]
 simp
theorem storeZ {P : Program} {t : TypeId} [h1 : SizeIs P t 23] {xs ys zs : List AV} {T : Heap} (hx : zs.length = 23) (hxo : zs.all AV.one = true) (hy : ys.length = 23) (hyo : ys.all AV.one = true) : storeC P t (H ++ [xs] ++ [zs] ++ T) (H.length + 1) 0 (.agg ys) zs = some (H ++ [xs] ++ [ys] ++ T) := by
 unfold storeC
 simp only [h1.h, Option.bind_some]
 rw [if_pos ⟨hy, hyo, by omega, by omega, plainRow_one hxo⟩]
 have e : List.drop (0 + 23) zs = [] := List.drop_eq_nil_of_le (by omega)
 rw [e]
 simp [AV.cells]
theorem gU0 {xs zs : List AV} {T : Heap} : (H ++ [xs] ++ [zs] ++ T)[H.length]? = some xs := by simp
theorem gU1 {xs zs : List AV} {T : Heap} : (H ++ [xs] ++ [zs] ++ T)[H.length + 1]? = some zs := by rw [xgL (by simp)]; simp
theorem copy_w (u : UrlV) (hu : u.fine) : WF Tryz.prog cfg 27 [.agg u.cells] H (fun r H' => ∃ p, r = .agg (ucells u p) ∧ p.one = true ∧ ReadsS H' (plainA p) u.path ∧ H <+: H') := by
 obtain ⟨f1, f2, f3, f4, f5, f6, f7, f8, f9, hfin, p0, p1⟩ := hu
 have h8 := hfin.1
 have hm : ∀ d, cfg.muF 27 d = (d == 5) := fun _ => rfl
 have hz : ∀ d, cfg.fzF 27 d = (false) := fun _ => rfl
 have ht : ∀ d, cfg.tkF 27 d = (false) := fun _ => rfl
 have hr_ : ∀ g, cfg.raw g = (g == 253 || g == 225 || g == 53) := fun _ => rfl
 refine rF_fn rfl rfl Tryz.func27 rfl ?_
 have hone : (pathC u).one = true := rfl
 have ho := u_one u (pathC u) hone
 have hn := u_len u (pathC u) h8
 have hpl := fun {x : Option AV} => u_pl u (pathC u) hone (x := x)
 have k18 : ∀ {s : Option Nat}, partD (some false) s (ucells u (pathC u)) 18 = some (.sl (u.path.map AV.str)) := fun {s} => u_k18 u (pathC u) h8 (s := s)
 have hst := fun p => u_set u (pathC u) p h8
 have hone2 := fun p hp => u_one u p hp
 have hn2 := fun p => u_len u p h8
 unfold UrlV.cells
 generalize ucells u (pathC u) = cs at *
 have g0 : (H ++ [cs] ++ [zu])[H.length]? = some cs := by simp
 obtain ⟨y, T, e1, e2, e3⟩ := clone_alt (H := H ++ [cs] ++ [zu]) (l := u.path) (by omega)
 have hty := u_take u y h8
 have hpy := fun {x : Option AV} => u_pl u y e2 (x := x)
 have hoy := hone2 y e2
 have hny := hn2 y
 repeat' first|simp (disch:=first|omega|assumption|decide) only[go_sem,hm,hz,ht,hr_,ho,hpl,k18,ZU,g0,wdl,bind_some_,map_some_,oneD_fold]|(apply ifP_in<;>intro)
 refine rFalt_some rfl e1 ?_
 repeat' first|simp (disch:=first|omega|assumption|decide) only[go_sem,hm,hz,ht,hr_,ho,hpl,gU0,gU1,storeUC,hst,hty,hpy,hoy,hny,storeZ,zu_len,zu_one,Nat.le_refl,if_true,wdl,bind_some_,map_some_,oneD_fold]|(apply ifP_in<;>intro)
 exact ⟨y, rfl, e2, clone_reads e3 (by simp), by rw [List.append_assoc, List.append_assoc]; exact List.prefix_append _ _⟩
end Hs
end Go.Proofs
/- The law of addresses as texts. -/
set_option linter.unusedVariables false
set_option linter.unusedSimpArgs false
namespace Go.Proofs
open Go.Lv
namespace Hs
open Pu Ut Utf In
variable {H : Heap}
theorem first9_e {Q : K (AV → Heap → Prop)} : @rF Tryz.prog cfg 13 [] H Q = Q.v (.b true) H := rF_eq sprlaw9_first_w
theorem pre_getU {H H' : Heap} {j : Nat} {cs : List AV} (hp : H <+: H') (h : H[j]? = some cs) : H'[j]? = some cs := by
 obtain ⟨T, rfl⟩ := hp
 rw [xgL (xgI.1 h).1]
 exact h
theorem ReadsS.pre {H H' : Heap} {a : AV} {l : List (List UInt8)} (h : ReadsS H a l) (hp : H <+: H') : ReadsS H' a l := by
 obtain ⟨T, rfl⟩ := hp
 exact h.add T
theorem storeW {P : Program} {t : TypeId} [h1 : SizeIs P t 23] {ys zs : List AV} (hx : zs.length = 23) (hxo : zs.all AV.one = true) (hy : ys.length = 23) (hyo : ys.all AV.one = true) : storeC P t (H ++ [zs]) H.length 0 (.agg ys) zs = some (H ++ [ys]) := by
 unfold storeC
 simp only [h1.h, Option.bind_some]
 rw [if_pos ⟨hy, hyo, by omega, by omega, plainRow_one hxo⟩]
 have e : List.drop (0 + 23) zs = [] := List.drop_eq_nil_of_le (by omega)
 rw [e]
 simp [AV.cells]
set_option maxRecDepth 100000 in
set_option maxHeartbeats 8000000 in
theorem prints_u (u v : UrlV) (hu : u.fine) (hv : v.fine) : WF Tryz.prog cfg 10 [.agg u.cells, .agg v.cells] H (fun r H' => r = .b true) := by
 have h8 := hu.2.2.2.2.2.2.2.2.2.1.1
 have h8' := hv.2.2.2.2.2.2.2.2.2.1.1
 have hlu : u.path.length ≤ 140737488355328 := by have := hu.2.2.2.2.2.2.2.1; omega
 have hlv : v.path.length ≤ 140737488355328 := by have := hv.2.2.2.2.2.2.2.1; omega
 have hm : ∀ d, cfg.muF 10 d = (false) := fun _ => rfl
 have hz : ∀ d, cfg.fzF 10 d = (false) := fun _ => rfl
 have ht : ∀ d, cfg.tkF 10 d = (false) := fun _ => rfl
 have hr_ : ∀ g, cfg.raw g = (g == 253 || g == 225 || g == 53) := fun _ => rfl
 refine rF_fn rfl rfl Tryz.func10 rfl ?_
 have hfu := fun {H : Heap} => few_w9 (H := H) u hu
 have hfv := fun {H : Heap} => few_w9 (H := H) v hv
 have hcp := fun {H : Heap} => copy_w (H := H) u hu
 have hpw := fun {H : Heap} (hs : u.small) => print_wU (H := H) u hu hs
 have hpr := fun {H : Heap} (hs : u.small) => print_rU (H := H) u hu hs
 have hsm := fun {H : Heap} => same_u (H := H) u v (pathC u) (pathC v) rfl rfl h8 h8' hlu hlv (.inl rfl) (.inl rfl)
 have hul := fun {H : Heap} => url_r (H := H) u v (pathC u) (pathC v) rfl rfl h8 h8' hlu hlv (.inl rfl) (.inl rfl)
 have huu := fun {H : Heap} (p : AV) (h1 : p.one = true) (h2 : ReadsS H (plainA p) u.path) => url_r (H := H) u u p (pathC u) h1 rfl h8 h8 hlu hlu h2 (.inl rfl)
 have hoA := u_one u (pathC u) rfl
 have hoB := u_one v (pathC v) rfl
 have hlA := u_len u (pathC u) h8
 have hlB := u_len v (pathC v) h8'
 have hplA := fun {x : Option AV} => u_pl u (pathC u) rfl (x := x)
 have hplB := fun {x : Option AV} => u_pl v (pathC v) rfl (x := x)
 have htA := u_take u (pathC u) h8
 have htB := u_take v (pathC v) h8'
 have hk0 := fun {s : Option Nat} => u_k0 u (pathC u) (s := s)
 have hc1 := fun p hp => u_one u p hp
 have hc2 := fun p => u_len u p h8
 have hc3 := fun p hp => fun {x : Option AV} => u_pl u p hp (x := x)
 have hc4 := fun p => u_take u p h8
 unfold UrlV.cells at *
 generalize ucells u (pathC u) = ca at *
 generalize ucells v (pathC v) = cb at *
 have hsmall := fun h => fewB_small (u := u) hu h
 repeat' first|simp (disch:=first|omega|assumption|decide) only[go_sem,hm,hz,ht,hr_,first9_e,hoA,hoB,hplA,hplB,hlA,hlB,htA,htB,Nat.le_refl,if_true,g2a,g2b,wdl,bind_some_,map_some_,oneD_fold]|(apply ifP_in<;>intro)
 refine rF_use hfu ?_
 rintro _ H1 ⟨rfl, T1, rfl⟩
 have gA1 : (H ++ [ca] ++ [cb] ++ T1)[H.length]? = some ca := by simp
 have gB1 : (H ++ [ca] ++ [cb] ++ T1)[H.length + 1]? = some cb := by rw [xgL (by simp)]; simp
 cases hfb : fewB u with
 | false =>
  repeat' first|simp (disch:=first|omega|assumption|decide) only[go_sem,hm,hz,ht,hr_,first9_e,hoA,hoB,hplA,hplB,hlA,hlB,htA,htB,Nat.le_refl,if_true,gA1,gB1,wdl,bind_some_,map_some_,oneD_fold]|(apply ifP_in<;>intro)
 | true =>
  have hs := hsmall hfb
  have hpw := fun {H : Heap} => hpw (H := H) hs
  have hpr := fun {H : Heap} => hpr (H := H) hs
  repeat' first|simp (disch:=first|omega|assumption|decide) only[go_sem,hm,hz,ht,hr_,first9_e,hoA,hoB,hplA,hplB,hlA,hlB,htA,htB,Nat.le_refl,if_true,gA1,gB1,wdl,bind_some_,map_some_,oneD_fold]|(apply ifP_in<;>intro)
  refine rF_use hfv ?_
  rintro _ H2 ⟨rfl, T2, rfl⟩
  have gA2 : (H ++ [ca] ++ [cb] ++ T1 ++ T2)[H.length]? = some ca := by simp
  have gB2 : (H ++ [ca] ++ [cb] ++ T1 ++ T2)[H.length + 1]? = some cb := by rw [xgL (by simp), xgL (by simp)]; simp
  cases hfb2 : fewB v with
  | false =>
   repeat' first|simp (disch:=first|omega|assumption|decide) only[go_sem,hm,hz,ht,hr_,first9_e,hoA,hoB,hplA,hplB,hlA,hlB,htA,htB,Nat.le_refl,if_true,gA2,gB2,wdl,bind_some_,map_some_,oneD_fold]|(apply ifP_in<;>intro)
  | true =>
   repeat' first|simp (disch:=first|omega|assumption|decide) only[go_sem,hm,hz,ht,hr_,first9_e,hoA,hoB,hplA,hplB,hlA,hlB,htA,htB,Nat.le_refl,if_true,gA2,gB2,wdl,bind_some_,map_some_,oneD_fold]|(apply ifP_in<;>intro)
   refine rF_use hcp ?_
   rintro _ H3 ⟨p, rfl, p1, p2, T3, rfl⟩
   have hcp1 := hc1 p p1
   have hcp2 := hc2 p
   have hcp3 := fun {x : Option AV} => hc3 p p1 (x := x)
   have hcp4 := hc4 p
   have huu1 := fun {H : Heap} (h2 : ReadsS H (plainA p) u.path) => huu (H := H) p p1 h2
   generalize ucells u p = cc at *
   have gA3 : (H ++ [ca] ++ [cb] ++ T1 ++ T2 ++ T3)[H.length]? = some ca := by simp
   have gB3 : (H ++ [ca] ++ [cb] ++ T1 ++ T2 ++ T3)[H.length + 1]? = some cb := by rw [xgL (by simp), xgL (by simp), xgL (by simp)]; simp
   generalize H ++ [ca] ++ [cb] ++ T1 ++ T2 ++ T3 = K1 at *
   have hq : K1 <+: K1 ++ [cc] := List.prefix_append _ _
   have gA4 := pre_getU hq gA3
   have gB4 := pre_getU hq gB3
   have gC4 : (K1 ++ [cc])[K1.length]? = some cc := by simp
   have p4 := p2.pre hq
   repeat' first|simp (disch:=first|omega|assumption|decide) only[go_sem,hm,hz,ht,hr_,first9_e,hoA,hoB,hplA,hplB,hlA,hlB,htA,htB,Nat.le_refl,if_true,hcp3,hcp4,hcp2,gA3,gB3,gA4,gB4,gC4,ZU,storeW,zu_len,zu_one,hcp1,hcp2,wdl,bind_some_,map_some_,oneD_fold]|(apply ifP_in<;>intro)
   refine rF_use hpw ?_
   rintro _ K5 ⟨rfl, q5⟩
   have gA5 := pre_getU q5 gA4
   have gB5 := pre_getU q5 gB4
   have gC5 := pre_getU q5 gC4
   have p5 := p4.pre q5
   repeat' first|simp (disch:=first|omega|assumption|decide) only[go_sem,hm,hz,ht,hr_,first9_e,hoA,hoB,hplA,hplB,hlA,hlB,htA,htB,Nat.le_refl,if_true,hcp3,hcp4,hcp2,gA4,gB4,gA5,gB5,gC5,wdl,bind_some_,map_some_,oneD_fold]|(apply ifP_in<;>intro)
   refine rF_use hpr ?_
   rintro _ K6 ⟨rfl, q6⟩
   have gA6 := pre_getU q6 gA5
   have gB6 := pre_getU q6 gB5
   have gC6 := pre_getU q6 gC5
   have p6 := p5.pre q6
   repeat' first|simp (disch:=first|omega|assumption|decide) only[go_sem,hm,hz,ht,hr_,first9_e,hoA,hoB,hplA,hplB,hlA,hlB,htA,htB,Nat.le_refl,if_true,hcp3,hcp4,hcp2,gA4,gB4,gA5,gB5,gC5,gA6,gB6,gC6,wdl,bind_some_,map_some_,oneD_fold]|(apply ifP_in<;>intro)
   refine rF_use hsm ?_
   rintro _ K7 ⟨rfl, q7⟩
   have gA7 := pre_getU q7 gA6
   have gB7 := pre_getU q7 gB6
   have gC7 := pre_getU q7 gC6
   have p7 := p6.pre q7
   repeat' first|simp (disch:=first|omega|assumption|decide) only[go_sem,hm,hz,ht,hr_,first9_e,hoA,hoB,hplA,hplB,hlA,hlB,htA,htB,Nat.le_refl,if_true,hcp3,hcp4,hcp2,gA4,gB4,gA5,gB5,gC5,gA6,gB6,gC6,gA7,gB7,gC7,wdl,bind_some_,map_some_,oneD_fold]|(apply ifP_in<;>intro)
   refine rF_use hul ?_
   rintro _ K8 ⟨rfl, q8⟩
   have gA8 := pre_getU q8 gA7
   have gB8 := pre_getU q8 gB7
   have gC8 := pre_getU q8 gC7
   have p8 := p7.pre q8
   repeat' first|simp (disch:=first|omega|assumption|decide) only[go_sem,hm,hz,ht,hr_,first9_e,hoA,hoB,hplA,hplB,hlA,hlB,htA,htB,Nat.le_refl,if_true,hcp3,hcp4,hcp2,gA4,gB4,gA5,gB5,gC5,gA6,gB6,gC6,gA7,gB7,gC7,gA8,gB8,gC8,beq_self_eq_true,wdl,bind_some_,map_some_,oneD_fold]|(apply ifP_in<;>intro)
   refine rF_use (huu1 p8) ?_
   rintro _ K9 ⟨rfl, q9⟩
   rw [eqU_same]
   have gA9 := pre_getU q9 gA8
   have gB9 := pre_getU q9 gB8
   have gC9 := pre_getU q9 gC8
   repeat' first|simp (disch:=first|omega|assumption|decide) only[go_sem,hm,hz,ht,hr_,first9_e,hoA,hoB,hplA,hplB,hlA,hlB,htA,htB,Nat.le_refl,if_true,hcp3,hcp4,hcp2,gA4,gB4,gA5,gB5,gC5,gA6,gB6,gC6,gA7,gB7,gC7,gA8,gB8,gC8,gA9,gB9,gC9,hk0,special_e,special_re,beq_self_eq_true,wdl,bind_some_,map_some_,oneD_fold]|(apply ifP_in<;>intro)
end Hs
end Go.Proofs
