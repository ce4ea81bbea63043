/- Addresses: their cells, and as arguments. -/
import Derived.Test.YtfkjkmjkfnephaaGreatDoorHoAllex0
import Derived.Test.YtfkjkmjkfnephaaGreatDoorLvAll19
import Derived.Test.YtfkjkmjkfnephaaGreatDoorLvAll11
import Derived.KernelRfl
set_option linter.unusedVariables false
set_option linter.unusedSimpArgs false
namespace Go.Proofs
open Go.Lv
namespace Hs
open Pu Ut Utf In
structure UrlV where
 scheme : List UInt8
 user : List UInt8
 pass : List UInt8
 has : Bool
 host : HostV
 port : Int
 dark : Bool
 text : List UInt8
 path : List (List UInt8)
 hasQ : Bool
 q : List UInt8
 hasF : Bool
 f : List UInt8
def ucells (u : UrlV) (p : AV) : List AV := .str u.scheme :: .str u.user :: .str u.pass :: .b u.has :: (u.host.cells ++ [.i u.port, .b u.dark, .str u.text, p, .b u.hasQ, .str u.q, .b u.hasF, .str u.f])
def pathC (u : UrlV) : AV := .sl (u.path.map AV.str)
def UrlV.cells (u : UrlV) : List AV := ucells u (pathC u)
def HostV.fine (h : HostV) : Prop := h.l.length = 8 ∧ Ho.u16s h.l ∧ 0 ≤ h.v ∧ h.v < 4294967296
def UrlV.fine (u : UrlV) : Prop := u.scheme.length ≤ 140737488351232 ∧ u.user.length ≤ 140737488351232 ∧ u.pass.length ≤ 140737488351232 ∧ u.host.n.length ≤ 140737488351232 ∧ u.text.length ≤ 140737488351232 ∧ u.q.length ≤ 140737488351232 ∧ u.f.length ≤ 140737488351232
 ∧ u.path.length * 16 ≤ 140737488351232 ∧ (∀ x ∈ u.path, x.length ≤ 140737488351232) ∧ u.host.fine ∧ -9223372036854775808 ≤ u.port ∧ u.port ≤ 9223372036854775807
theorem HostV.fine_of {h : HostV} (o : h.ok) : h.fine := by
 obtain ⟨o1, o2, o3, o4⟩ := o
 simp [Lit.wf, IntKind.min, IntKind.max, IntKind.signed, IntKind.bits] at o2
 exact ⟨o3, fun x hx => by
  have := o4 x hx
  simp [Lit.wf, IntKind.min, IntKind.max, IntKind.signed, IntKind.bits] at this
  omega, by omega, by omega⟩
theorem hcells_len' (h : HostV) (h8 : h.l.length = 8) : h.cells.length = 11 := hcells_len h8
theorem hcells_one' (h : HostV) : h.cells.all AV.one = true := hcells_one
theorem u_len (u : UrlV) (p : AV) (h8 : u.host.l.length = 8) : (ucells u p).length = 23 := by
 unfold ucells
 simp [hcells_len' u.host h8]
theorem u_one (u : UrlV) (p : AV) (hp : p.one = true) : (ucells u p).all AV.one = true := by
 unfold ucells
 have e1 : ∀ s : List UInt8, (AV.str s).one = true := fun _ => rfl
 have e2 : ∀ v : Value, (AV.v v).one = true := fun _ => rfl
 simp only [List.all_cons, List.all_append, hcells_one', hp, e1, e2, List.all_nil, Bool.and_true, Bool.true_and]
theorem u_get (u : UrlV) (p : AV) (h8 : u.host.l.length = 8) : (ucells u p)[15]? = some (.i u.port) ∧ (ucells u p)[16]? = some (.b u.dark) ∧ (ucells u p)[17]? = some (.str u.text) ∧ (ucells u p)[18]? = some p ∧ (ucells u p)[19]? = some (.b u.hasQ) ∧ (ucells u p)[20]? = some (.str u.q) ∧ (ucells u p)[21]? = some (.b u.hasF) ∧ (ucells u p)[22]? = some (.str u.f) ∧ ((ucells u p).drop 4).take 11 = u.host.cells := by
 have hl := hcells_len' u.host h8
 unfold ucells
 generalize u.host.cells = cs at *
 match cs, hl with
 | [_, _, _, _, _, _, _, _, _, _, _], _ => exact ⟨rfl, rfl, rfl, rfl, rfl, rfl, rfl, rfl, rfl⟩
theorem opens_strs {W : World} {HH : Type} {enc : TypeId × Value → HH} : Opens Tryz.prog W enc 22 (fun l : List (List UInt8) => [AV.sl (l.map fun a => elA false [AV.str a])]) (fun l => l.length * 16 ≤ 140737488351232 ∧ ∀ a ∈ l, a.length ≤ 140737488351232) :=
 Opens.slice (n := 1) (by_ := 16) false Tryz.underlying22 (by kernel_rfl) Nat.one_pos (by kernel_rfl) (fun _ => rfl) (Opens.str Tryz.underlying9 (by kernel_rfl)) (by kernel_rfl)
theorem opens_s {W : World} {HH : Type} {enc : TypeId × Value → HH} : Opens Tryz.prog W enc 9 (fun s : List UInt8 => [AV.str s]) (fun s => s.length ≤ 140737488351232) := Opens.str Tryz.underlying9 (by kernel_rfl)
theorem opens_b {W : World} {HH : Type} {enc : TypeId × Value → HH} : Opens Tryz.prog W enc 4 (fun b : Bool => [AV.b b]) (fun _ => True) := Opens.bool Tryz.underlying4 (by kernel_rfl)
theorem opens_url {W : World} {HH : Type} {enc : TypeId × Value → HH} : Opens Tryz.prog W enc 31 UrlV.cells UrlV.fine :=
 Opens.iso (fun p : List UInt8 × List UInt8 × List UInt8 × Bool × HostV × Int × Bool × List UInt8 × List (List UInt8) × Bool × List UInt8 × Bool × List UInt8 × Unit =>
   (⟨p.1, p.2.1, p.2.2.1, p.2.2.2.1, p.2.2.2.2.1, p.2.2.2.2.2.1, p.2.2.2.2.2.2.1, p.2.2.2.2.2.2.2.1, p.2.2.2.2.2.2.2.2.1, p.2.2.2.2.2.2.2.2.2.1, p.2.2.2.2.2.2.2.2.2.2.1, p.2.2.2.2.2.2.2.2.2.2.2.1, p.2.2.2.2.2.2.2.2.2.2.2.2.1⟩ : UrlV))
  (Opens.struct Tryz.underlying31 (tot := 23) (by kernel_rfl)
   (OpensF.cons (n0 := 1) opens_s rfl (by kernel_rfl) (OpensF.cons (n0 := 1) opens_s rfl (by kernel_rfl) (OpensF.cons (n0 := 1) opens_s rfl (by kernel_rfl) (OpensF.cons (n0 := 1) opens_b rfl (by kernel_rfl)
    (OpensF.cons (n0 := 11) opens_host rfl (by kernel_rfl) (OpensF.cons (n0 := 1) (opens_int W) rfl (by kernel_rfl) (OpensF.cons (n0 := 1) opens_b rfl (by kernel_rfl) (OpensF.cons (n0 := 1) opens_s rfl (by kernel_rfl)
     (OpensF.cons (n0 := 1) opens_strs rfl (by kernel_rfl) (OpensF.cons (n0 := 1) opens_b rfl (by kernel_rfl) (OpensF.cons (n0 := 1) opens_s rfl (by kernel_rfl) (OpensF.cons (n0 := 1) opens_b rfl (by kernel_rfl)
      (OpensF.cons (n0 := 1) opens_s rfl (by kernel_rfl) OpensF.nil rfl) rfl) rfl) rfl) rfl) rfl) rfl) rfl) rfl) rfl) rfl) rfl) rfl))
  (fun p => by
   obtain ⟨a, b, c, d, e, f, g, h, i, j, k, l, m, n⟩ := p
   simp [UrlV.cells, ucells, pathC, elA])
  (fun p hp => by
   obtain ⟨a, b, c, d, e, f, g, h, i, j, k, l, m, n⟩ := p
   obtain ⟨h1, h2, h3, _, h5, h6, _, h8, h9, _, h11, _, h13, _⟩ := hp
   have h6' := h6
   simp [Lit.wf, IntKind.min, IntKind.max, IntKind.signed, IntKind.bits] at h6'
   exact ⟨h1, h2, h3, h5.1, h8, h11, h13, h9.1, h9.2, HostV.fine_of h5, by simp only; omega, by simp only; omega⟩)
end Hs
end Go.Proofs
/- Walks: any number in decimal digits, the document's side. -/
set_option linter.unusedVariables false
set_option linter.unusedSimpArgs false
namespace Go.Proofs
open Go.Lv
namespace Hs
open Pu Ut Utf In
end Hs
end Go.Proofs
/- Walks: lists of texts held against one another, in whatever row they stand. -/
set_option linter.unusedVariables false
set_option linter.unusedSimpArgs false
namespace Go.Proofs
open Go.Lv
namespace Hs
open Pu Ut Utf In
variable {H : Heap}
def ReadsS (H : Heap) (a : AV) (l : List (List UInt8)) : Prop := a = .sl (l.map AV.str) ∨ ∃ (j off : Nat) (xs : List (List UInt8)), a = .mr j off l.length 1 false ∧ H[j]? = some (xs.map AV.str) ∧ (xs.drop off).take l.length = l ∧ 0 < l.length
end Hs
end Go.Proofs
/- Walks: addresses as texts. -/
set_option linter.unusedVariables false
set_option linter.unusedSimpArgs false
namespace Go.Proofs
open Go.Lv
namespace Hs
open Pu Ut Utf In
variable {H : Heap}
def HTTP : List UInt8 := [104, 116, 116, 112]
def HTTPS : List UInt8 := [104, 116, 116, 112, 115]
def WS_ : List UInt8 := [119, 115]
def WSS : List UInt8 := [119, 115, 115]
def FTP : List UInt8 := [102, 116, 112]
def spec (s : List UInt8) : Int := if s = HTTP ∨ s = WS_ then 80 else if s = HTTPS ∨ s = WSS then 443 else if s = FTP then 21 else 0
theorem spec_rng (s : List UInt8) : 0 ≤ spec s ∧ spec s ≤ 443 := by
 unfold spec
 split
 ·omega
 split
 ·omega
 split <;> omega
theorem special_w (s : List UInt8) : WF Tryz.prog cfg 17 [.str s] H (fun r H' => r = .i (spec s) ∧ H' = H) := by
 have hm : ∀ d, cfg.muF 17 d = (false) := fun _ => rfl
 have hz : ∀ d, cfg.fzF 17 d = (false) := fun _ => rfl
 have ht : ∀ d, cfg.tkF 17 d = (false) := fun _ => rfl
 have hr_ : ∀ g, cfg.raw g = (g == 147 || g == 130 || g == 57) := fun _ => rfl
 refine rF_fn rfl rfl Tryz.func17 rfl ?_
 have d1 : [104, 116, 116, 112] = HTTP := rfl
 have d2 : [104, 116, 116, 112, 115] = HTTPS := rfl
 have d3 : [119, 115] = WS_ := rfl
 have d4 : [119, 115, 115] = WSS := rfl
 have d5 : [102, 116, 112] = FTP := rfl
 unfold spec
 by_cases c1 : s = HTTP
 ·have e1 : decide (s = HTTP) = true := decide_eq_true c1
  rw [if_pos (.inl c1)]
  repeat' first|simp (disch:=first|omega|assumption|decide) only[go_sem,hm,hz,ht,hr_,d1,d2,d3,d4,d5,e1]|(apply ifP_in<;>intro)
 have e1 : decide (s = HTTP) = false := decide_eq_false c1
 by_cases c2 : s = WS_
 ·have e2 : decide (s = WS_) = true := decide_eq_true c2
  rw [if_pos (.inr c2)]
  repeat' first|simp (disch:=first|omega|assumption|decide) only[go_sem,hm,hz,ht,hr_,d1,d2,d3,d4,d5,e1,e2]|(apply ifP_in<;>intro)
 have e2 : decide (s = WS_) = false := decide_eq_false c2
 rw [if_neg (fun h => h.elim c1 c2)]
 by_cases c3 : s = HTTPS
 ·have e3 : decide (s = HTTPS) = true := decide_eq_true c3
  rw [if_pos (.inl c3)]
  repeat' first|simp (disch:=first|omega|assumption|decide) only[go_sem,hm,hz,ht,hr_,d1,d2,d3,d4,d5,e1,e2,e3]|(apply ifP_in<;>intro)
 have e3 : decide (s = HTTPS) = false := decide_eq_false c3
 by_cases c4 : s = WSS
 ·have e4 : decide (s = WSS) = true := decide_eq_true c4
  rw [if_pos (.inr c4)]
  repeat' first|simp (disch:=first|omega|assumption|decide) only[go_sem,hm,hz,ht,hr_,d1,d2,d3,d4,d5,e1,e2,e3,e4]|(apply ifP_in<;>intro)
 have e4 : decide (s = WSS) = false := decide_eq_false c4
 rw [if_neg (fun h => h.elim c3 c4)]
 by_cases c5 : s = FTP
 ·have e5 : decide (s = FTP) = true := decide_eq_true c5
  rw [if_pos c5]
  repeat' first|simp (disch:=first|omega|assumption|decide) only[go_sem,hm,hz,ht,hr_,d1,d2,d3,d4,d5,e1,e2,e3,e4,e5]|(apply ifP_in<;>intro)
 have e5 : decide (s = FTP) = false := decide_eq_false c5
 rw [if_neg c5]
 repeat' first|simp (disch:=first|omega|assumption|decide) only[go_sem,hm,hz,ht,hr_,d1,d2,d3,d4,d5,e1,e2,e3,e4,e5]|(apply ifP_in<;>intro)
theorem special_e (s : List UInt8) {Q : K (AV → Heap → Prop)} : @rF Tryz.prog cfg 17 [.str s] H Q = Q.v (.i (spec s)) H := rF_eq (special_w s)
section
variable (u : UrlV) (p : AV)
theorem u_k0 {s : Option Nat} : partD (some false) s (ucells u p) 0 = some (.str u.scheme) := rfl
theorem u_k1 {s : Option Nat} : partD (some false) s (ucells u p) 1 = some (.str u.user) := rfl
theorem u_k2 {s : Option Nat} : partD (some false) s (ucells u p) 2 = some (.str u.pass) := rfl
theorem u_k3 {s : Option Nat} : partD (some false) s (ucells u p) 3 = some (.b u.has) := rfl
theorem u_k4 (h8 : u.host.l.length = 8) : partD (some true) (some 11) (ucells u p) 4 = some (.agg u.host.cells) := by
 unfold partD
 simp only
 rw [if_pos (by rw [u_len u p h8]; omega), (u_get u p h8).2.2.2.2.2.2.2.2]
theorem u_k5 {s : Option Nat} : partD (some false) s (ucells u p) 5 = some (.str u.host.n) := rfl
theorem u_k15 (h8 : u.host.l.length = 8) {s : Option Nat} : partD (some false) s (ucells u p) 15 = some (.i u.port) := (u_get u p h8).1
theorem u_k16 (h8 : u.host.l.length = 8) {s : Option Nat} : partD (some false) s (ucells u p) 16 = some (.b u.dark) := (u_get u p h8).2.1
theorem u_k17 (h8 : u.host.l.length = 8) {s : Option Nat} : partD (some false) s (ucells u p) 17 = some (.str u.text) := (u_get u p h8).2.2.1
theorem u_k18 (h8 : u.host.l.length = 8) {s : Option Nat} : partD (some false) s (ucells u p) 18 = some p := (u_get u p h8).2.2.2.1
theorem u_k19 (h8 : u.host.l.length = 8) {s : Option Nat} : partD (some false) s (ucells u p) 19 = some (.b u.hasQ) := (u_get u p h8).2.2.2.2.1
theorem u_k20 (h8 : u.host.l.length = 8) {s : Option Nat} : partD (some false) s (ucells u p) 20 = some (.str u.q) := (u_get u p h8).2.2.2.2.2.1
theorem u_k21 (h8 : u.host.l.length = 8) {s : Option Nat} : partD (some false) s (ucells u p) 21 = some (.b u.hasF) := (u_get u p h8).2.2.2.2.2.2.1
theorem u_k22 (h8 : u.host.l.length = 8) {s : Option Nat} : partD (some false) s (ucells u p) 22 = some (.str u.f) := (u_get u p h8).2.2.2.2.2.2.2.1
theorem u_pl (hp : p.one = true) {x : Option AV} : plainD (ucells u p) x = x := plainD_of (plainRow_one (u_one u p hp))
theorem u_take (h8 : u.host.l.length = 8) : (ucells u p).take 23 = ucells u p := List.take_of_length_le (by rw [u_len u p h8]; omega)
end
def fewN (n : Int) (l : List (List UInt8)) : Int := l.foldl (fun n x => min (n + min (x.length : Int) 20000) 80000) n
theorem fewN_snoc (n : Int) (l : List (List UInt8)) (x : List UInt8) : fewN n (l ++ [x]) = min (fewN n l + min (x.length : Int) 20000) 80000 := by
 unfold fewN; rw [List.foldl_append]; rfl
theorem fewN_big : ∀ (l : List (List UInt8)) (n : Int), 20000 < n → 20000 < fewN n l := by
 intro l
 induction l with
 | nil => intro n h; exact h
 | cons x l ih =>
  intro n h
  show 20000 < fewN (min (n + min (x.length : Int) 20000) 80000) l
  exact ih _ (by omega)
def capped (l : List (List UInt8)) : Nat := (l.map fun x => min x.length 20000).sum
theorem fewN_cap : ∀ (l : List (List UInt8)) (n : Int), 0 ≤ n → fewN n l ≤ 20000 → n + (capped l : Nat) ≤ 20000 := by
 intro l
 induction l with
 | nil => intro n h0 h; simpa [fewN, capped] using h
 | cons x l ih =>
  intro n h0 h
  have h : fewN (min (n + min (x.length : Int) 20000) 80000) l ≤ 20000 := h
  have hc : capped (x :: l) = min x.length 20000 + capped l := rfl
  rw [hc]
  by_cases hb : 20000 < min (n + min (x.length : Int) 20000) 80000
  ·have := fewN_big l _ hb; omega
  ·have := ih _ (by omega) h
   omega
theorem capped_zero : ∀ (l : List (List UInt8)), capped l = 0 → (l.map List.length).sum = 0 := by
 intro l
 induction l with
 | nil => intro _; rfl
 | cons x l ih =>
  intro h
  have hc : capped (x :: l) = min x.length 20000 + capped l := rfl
  rw [hc] at h
  rw [List.map_cons, List.sum_cons, ih (by omega)]
  omega
theorem capped_sum : ∀ (l : List (List UInt8)) (k : Nat), (∀ x ∈ l, x.length ≤ 140737488351232) → k + capped l ≤ 20000 → k + (l.map List.length).sum ≤ 140737488351232 := by
 intro l
 induction l with
 | nil => intro k _ h; simp [capped] at h ⊢; omega
 | cons x l ih =>
  intro k hx h
  have hc : capped (x :: l) = min x.length 20000 + capped l := rfl
  rw [hc] at h
  rw [List.map_cons, List.sum_cons]
  have h1 := hx x (by simp)
  by_cases hb : x.length ≤ 20000
  ·have := ih (k + x.length) (fun y hy => hx y (by simp [hy])) (by omega)
   omega
  ·rw [capped_zero l (by omega)]
   omega
def few0 (u : UrlV) : Int := u.scheme.length + u.user.length + u.pass.length + u.host.n.length + u.text.length + u.q.length + u.f.length
def fewB (u : UrlV) : Bool := decide (u.path.length ≤ 300) && decide (fewN (few0 u) (u.path.take 300) ≤ 20000)
def UrlV.small (u : UrlV) : Prop := u.scheme.length + u.user.length + u.pass.length + u.host.n.length + u.text.length + u.q.length + u.f.length + (u.path.map List.length).sum ≤ 140737488351232 ∧ u.path.length ≤ 300 ∧ few0 u ≤ 20000
theorem fewB_small {u : UrlV} (hu : u.fine) (h : fewB u = true) : u.small := by
 unfold fewB at h
 rw [Bool.and_eq_true] at h
 have h1 := of_decide_eq_true h.1
 have h2 := of_decide_eq_true h.2
 rw [List.take_of_length_le h1] at h2
 have h3 := fewN_cap u.path (few0 u) (by unfold few0; omega) h2
 obtain ⟨k, hk⟩ : ∃ k : Nat, few0 u = k := ⟨(few0 u).toNat, by unfold few0; omega⟩
 rw [hk] at h3
 have h4 := capped_sum u.path k hu.2.2.2.2.2.2.2.2.1 (by omega)
 refine ⟨?_, h1, by omega⟩
 unfold few0 at hk
 omega
theorem fewN_nn : ∀ (l : List (List UInt8)) (n : Int), 0 ≤ n → 0 ≤ fewN n l := by
 intro l
 induction l with
 | nil => intro n h; exact h
 | cons x l ih => intro n h; exact ih (min (n + min (x.length : Int) 20000) 80000) (by omega)
theorem fewN_le (l : List (List UInt8)) (n : Int) (h : n ≤ 985162418487296) : fewN n l ≤ 985162418487296 := by
 induction l generalizing n with
 | nil => exact h
 | cons x l ih => exact ih (min (n + min (x.length : Int) 20000) 80000) (by omega)
theorem few_w9 (u : UrlV) (hu : u.fine) : WF Tryz.prog cfg 10 [.agg u.cells] H (fun r H' => r = .b (fewB u) ∧ H <+: H') := by
 obtain ⟨f1, f2, f3, f4, f5, f6, f7, f8, f9, ⟨h8, _⟩, _⟩ := hu
 have hm : ∀ d, cfg.muF 10 d = (false) := fun _ => rfl
 have hz : ∀ d, cfg.fzF 10 d = (false) := fun _ => rfl
 have ht : ∀ d, cfg.tkF 10 d = (false) := fun _ => rfl
 have hr_ : ∀ g, cfg.raw g = (g == 147 || g == 130 || g == 57) := fun _ => rfl
 refine rF_fn rfl rfl Tryz.func10 rfl ?_
 unfold UrlV.cells
 have hone : (pathC u).one = true := rfl
 have ho := u_one u (pathC u) hone
 have hn := u_len u (pathC u) h8
 have hpl := fun {x : Option AV} => u_pl u (pathC u) hone (x := x)
 have k0 := fun {s : Option Nat} => u_k0 u (pathC u) (s := s)
 have k1 := fun {s : Option Nat} => u_k1 u (pathC u) (s := s)
 have k2 := fun {s : Option Nat} => u_k2 u (pathC u) (s := s)
 have k3 := fun {s : Option Nat} => u_k3 u (pathC u) (s := s)
 have k4 := u_k4 u (pathC u) h8
 have k5 := fun {s : Option Nat} => u_k5 u (pathC u) (s := s)
 have k15 := fun {s : Option Nat} => u_k15 u (pathC u) h8 (s := s)
 have k16 := fun {s : Option Nat} => u_k16 u (pathC u) h8 (s := s)
 have k17 := fun {s : Option Nat} => u_k17 u (pathC u) h8 (s := s)
 have k18 : ∀ {s : Option Nat}, partD (some false) s (ucells u (pathC u)) 18 = some (.sl (u.path.map AV.str)) := fun {s} => u_k18 u (pathC u) h8 (s := s)
 have k19 := fun {s : Option Nat} => u_k19 u (pathC u) h8 (s := s)
 have k20 := fun {s : Option Nat} => u_k20 u (pathC u) h8 (s := s)
 have k21 := fun {s : Option Nat} => u_k21 u (pathC u) h8 (s := s)
 have k22 := fun {s : Option Nat} => u_k22 u (pathC u) h8 (s := s)
 have htk := u_take u (pathC u) h8
 generalize ucells u (pathC u) = cs at *
 have hmin : ∀ {a b : Int}, minA (.i a) (.i b) = some (.i (min a b)) := fun {a b} => by
  unfold minA
  simp only
  congr 3
  split <;> omega
 have hf0 : few0 u = (u.scheme.length : Int) + u.user.length + u.pass.length + u.host.n.length + u.text.length + u.q.length + u.f.length := rfl
 have hfb : fewB u = (decide (u.path.length ≤ 300) && decide (fewN (few0 u) (u.path.take 300) ≤ 20000)) := rfl
 rw [hfb]
 have b0 : few0 u ≤ 985162418487296 := by unfold few0; omega
 have b1 : 0 ≤ few0 u := by unfold few0; omega
 repeat' first|simp (disch:=first|omega|assumption|decide) only[go_sem,hm,hz,ht,hr_,ho,hpl,k0,k1,k2,k5,k17,k20,k22,wdl,bind_some_,map_some_,oneD_fold]|(apply ifP_in<;>intro)
 rw [← hf0]
 generalize few0 u = n0 at *
 refine rL_loop (σ := Nat) (fun i e H' => H' = H ++ [cs] ∧ e 1 = .ptr H.length 0 ∧ e 3 = .i (fewN n0 (u.path.take i)) ∧ e 4 = .i i ∧ i ≤ u.path.length ∧ i ≤ 300) (fun i => u.path.length - i) 0 ?_ ?_
 ·refine ⟨rfl, ?_, ?_, ?_, by omega, by omega⟩
  all_goals first | (simp (disch := first | assumption | omega) only [go_sem]; done) | (simp (disch := first | assumption | omega) only [go_sem]; rfl)
 ·rintro i e H' ⟨rfl, g1, g3, g4, i1, i2⟩
  have q1 := fewN_le (u.path.take i) n0 b0
  have q2 := fewN_nn (u.path.take i) n0 b1
  by_cases hi : i < u.path.length
  ·by_cases hi3 : i < 300
   ·have hix := ix_at hi
    have hxl := f9 _ (List.getElem_mem hi)
    have hsn := fewN_snoc n0 (u.path.take i) u.path[i]
    rw [← List.take_succ_eq_append_getElem hi] at hsn
    generalize u.path[i] = x at *
    generalize fewN n0 (u.path.take i) = n at *
    repeat' first|simp (disch:=first|omega|assumption|decide) only[go_sem,hm,hz,ht,hr_,ho,hpl,k18,g1,g3,g4,hix,hmin,wdl,bind_some_,map_some_,oneD_fold]|(apply ifP_in<;>intro)
    exact ⟨i + 1, ⟨by rw [hsn], rfl, by omega, by omega⟩, by omega⟩
   ·obtain rfl : i = 300 := by omega
    have hD : decide (u.path.length ≤ 300) = false := decide_eq_false (by omega)
    rw [hD, Bool.false_and]
    generalize fewN n0 (u.path.take 300) = n at *
    repeat' first|simp (disch:=first|omega|assumption|decide) only[go_sem,hm,hz,ht,hr_,ho,hpl,k18,g1,g3,g4,hmin,wdl,bind_some_,map_some_,oneD_fold]|(apply ifP_in<;>intro)
    exact List.prefix_append _ _
  ·obtain rfl : i = u.path.length := by omega
   have hD : decide (u.path.length ≤ 300) = true := decide_eq_true (by omega)
   rw [hD, Bool.true_and]
   have ht3 : u.path.take 300 = u.path.take u.path.length := by rw [List.take_of_length_le (by omega), List.take_length]
   rw [ht3]
   generalize fewN n0 (u.path.take u.path.length) = n at *
   repeat' first|simp (disch:=first|omega|assumption|decide) only[go_sem,hm,hz,ht,hr_,ho,hpl,k18,g1,g3,g4,hmin,wdl,bind_some_,map_some_,oneD_fold]|(apply ifP_in<;>intro)
   exact List.prefix_append _ _
end Hs
end Go.Proofs
/- Walks: addresses as texts: who is asked, and the whole. -/
set_option linter.unusedVariables false
set_option linter.unusedSimpArgs false
namespace Go.Proofs
open Go.Lv
namespace Hs
open Pu Ut Utf In
variable {H : Heap}
end Hs
end Go.Proofs
/- Walks: addresses as texts, the whole. -/
set_option linter.unusedVariables false
set_option linter.unusedSimpArgs false
namespace Go.Proofs
open Go.Lv
namespace Hs
open Pu Ut Utf In
variable {H : Heap}
end Hs
end Go.Proofs
/- Walks: addresses as texts, the document's side. -/
set_option linter.unusedVariables false
set_option linter.unusedSimpArgs false
namespace Go.Proofs
open Go.Lv
namespace Hs
open Pu Ut Utf In
variable {H : Heap}
end Hs
end Go.Proofs
/- Walks: two addresses, field by field. (Printed by gen_g.py.) -/
set_option linter.unusedVariables false
set_option linter.unusedSimpArgs false
namespace Go.Proofs
open Go.Lv
namespace Hs
open Pu Ut Utf In
variable {H : Heap}
def hostE (h h' : HostV) : Bool := eqH h.k h.n h.v h.l h'.k h'.n h'.v h'.l
theorem ReadsS.add {a : AV} {l : List (List UInt8)} (h : ReadsS H a l) (T : Heap) : ReadsS (H ++ T) a l := by
 rcases h with h | ⟨j, off, xs, h1, h2, h3, h4⟩
 ·exact .inl h
 ·exact .inr ⟨j, off, xs, h1, by rw [xgL (xgI.1 h2).1]; exact h2, h3, h4⟩
end Hs
end Go.Proofs
/- Walks: a copy of an address; the law of addresses as texts. -/
set_option linter.unusedVariables false
set_option linter.unusedSimpArgs false
namespace Go.Proofs
open Go.Lv
namespace Hs
open Pu Ut Utf In
variable {H : Heap}
def zu : List AV := [AV.str [], AV.str [], AV.str [], AV.v (Value.bool false), AV.v (Value.int IntKind.i64 0), AV.str [],
                AV.v (Value.int IntKind.u32 0), AV.v (Value.int IntKind.u16 0), AV.v (Value.int IntKind.u16 0),
                AV.v (Value.int IntKind.u16 0), AV.v (Value.int IntKind.u16 0), AV.v (Value.int IntKind.u16 0),
                AV.v (Value.int IntKind.u16 0), AV.v (Value.int IntKind.u16 0), AV.v (Value.int IntKind.u16 0),
                AV.v (Value.int IntKind.i64 0), AV.v (Value.bool false), AV.str [], nilA, AV.v (Value.bool false),
                AV.str [], AV.v (Value.bool false), AV.str []]
theorem ZU : [AV.str [], AV.str [], AV.str [], AV.v (Value.bool false), AV.v (Value.int IntKind.i64 0), AV.str [],
                AV.v (Value.int IntKind.u32 0), AV.v (Value.int IntKind.u16 0), AV.v (Value.int IntKind.u16 0),
                AV.v (Value.int IntKind.u16 0), AV.v (Value.int IntKind.u16 0), AV.v (Value.int IntKind.u16 0),
                AV.v (Value.int IntKind.u16 0), AV.v (Value.int IntKind.u16 0), AV.v (Value.int IntKind.u16 0),
                AV.v (Value.int IntKind.i64 0), AV.v (Value.bool false), AV.str [], nilA, AV.v (Value.bool false),
                AV.str [], AV.v (Value.bool false), AV.str []] = zu := rfl
theorem zu_len : zu.length = 23 := rfl
theorem zu_one : zu.all AV.one = true := rfl
end Hs
end Go.Proofs
