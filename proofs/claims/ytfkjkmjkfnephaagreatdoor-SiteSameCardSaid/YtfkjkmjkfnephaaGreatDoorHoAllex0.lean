/- The plain law of hosts: what is read is printed, and read as the same. -/
import Derived.Test.YtfkjkmjkfnephaaGreatDoorHoAlldx0
import Derived.Test.YtfkjkmjkfnephaaGreatDoorIdAllbx0
import Derived.Test.YtfkjkmjkfnephaaGreatDoorLvAll19
set_option linter.unusedVariables false
set_option linter.unusedSimpArgs false
namespace Go.Proofs
open Go.Lv
namespace Hs
theorem asc_ints (s : List UInt8) : Utf.asc (Puny.ints s) = s := by
 induction s with
 | nil => rfl
 | cons c r ih =>
  show UInt8.ofNat ((c.toNat : Int)).toNat :: Utf.asc (Puny.ints r) = _
  rw [ih]; simp
theorem plain_ints {s : List UInt8} (h : ∀ c ∈ s, c.toNat < 128) : Id.plain (Puny.ints s) = true := by
 refine List.all_eq_true.2 fun c hc => ?_
 obtain ⟨x, hx, rfl⟩ := List.mem_map.1 hc
 have := h x hx
 simp [Id.high]; omega
def pr (k : Int) (n : List UInt8) (v : Int) (l : List Int) : List UInt8 := if k = 1 ∨ k = 4 then n else if k = 2 then Ho.pr4 v else if k = 3 then [91] ++ Ho.pr6 l ++ [93] else []
end Hs
end Go.Proofs
/- Walks: eight pieces as a text, the program's side. -/
set_option linter.unusedVariables false
set_option linter.unusedSimpArgs false
namespace Go.Proofs
open Go.Lv
namespace Hs
open Pu Ut Utf In
variable {H : Heap}
section
variable {P : Program} {t e : TypeId}
end
end Hs
end Go.Proofs
/- The plain law of hosts: there and back. -/
set_option linter.unusedVariables false
set_option linter.unusedSimpArgs false
namespace Go.Proofs
open Go.Lv
namespace Hs
def good (k : Int) (n : List UInt8) (v : Int) (l : List Int) (sp : Bool) : Prop :=
 l.length = 8 ∧ Ho.u16s l ∧ 0 ≤ v ∧ v < 4294967296 ∧ n.length ≤ 12000 ∧ (sp = true → k = 1 ∨ k = 2 ∨ k = 3) ∧ (sp = false → k = 0 ∨ k = 3 ∨ k = 4) ∧
 ((pr k n v l).length ≤ 4000 → prs (pr k n v l) sp = (hcells k n v l, 0) ∧ prs (pr k n v l) (decide (k = 1) || decide (k = 2)) = (hcells k n v l, 0))
end Hs
end Go.Proofs
/- Walks: may a host be. -/
set_option linter.unusedVariables false
set_option linter.unusedSimpArgs false
namespace Go.Proofs
open Go.Lv
namespace Hs
open Pu Ut Utf In
variable {H : Heap}
theorem stoodH : Tryz.prog.stoodInHeld 29 = false := by kernel_rfl
theorem eqArr_u : ∀ (l m : List Int), l.length = m.length → eqArr .u16 (l.map uA) (m.map uA) = some (decide (l = m)) := by
 intro l
 induction l with
 | nil => intro m h; cases m with
  | nil => rfl
  | cons _ _ => simp at h
 | cons a l ih =>
  intro m h
  cases m with
  | nil => simp at h
  | cons b m =>
   rw [List.map_cons, List.map_cons, eqArr, if_pos ⟨rfl, rfl⟩, ih m (by simpa using h)]
   simp only [Option.map_some, Option.some.injEq]
   rw [Bool.eq_iff_iff]
   simp
def eqH (k : Int) (n : List UInt8) (v : Int) (l : List Int) (k' : Int) (n' : List UInt8) (v' : Int) (l' : List Int) : Bool := decide (k = k' ∧ n = n' ∧ v = v' ∧ l = l')
end Hs
end Go.Proofs
/- Walks: machines as texts, the document's side. -/
set_option linter.unusedVariables false
set_option linter.unusedSimpArgs false
namespace Go.Proofs
open Go.Lv
namespace Hs
open Pu Ut Utf In
variable {H : Heap}
theorem l1 {c : UInt8} : ([c] : List UInt8).length = 1 := rfl
theorem l2 {c d : UInt8} : ([c, d] : List UInt8).length = 2 := rfl
end Hs
end Go.Proofs
/- Walks: eight pieces as a text, the document's side. -/
set_option linter.unusedVariables false
set_option linter.unusedSimpArgs false
namespace Go.Proofs
open Go.Lv
namespace Hs
open Pu Ut Utf In
variable {H : Heap}
theorem hd0 {q : Int} (h0 : 0 ≤ q) (h1 : q < 16) : ((Ho.hd q).toNat : Int) = 48 ↔ q = 0 := by
 obtain rfl | rfl | rfl | rfl | rfl | rfl | rfl | rfl | rfl | rfl | rfl | rfl | rfl | rfl | rfl | rfl : q = 0 ∨ q = 1 ∨ q = 2 ∨ q = 3 ∨ q = 4 ∨ q = 5 ∨ q = 6 ∨ q = 7 ∨ q = 8 ∨ q = 9 ∨ q = 10 ∨ q = 11 ∨ q = 12 ∨ q = 13 ∨ q = 14 ∨ q = 15 := by omega
 all_goals decide
def s4 (v : Int) : List UInt8 := [Ho.hd (v / 4096), Ho.hd (v / 256 % 16), Ho.hd (v / 16 % 16), Ho.hd (v % 16)]
end Hs
end Go.Proofs
set_option linter.unusedVariables false
set_option linter.unusedSimpArgs false
namespace Ho
open Go
def runZ : List Int → Nat
 | [] => 0
 | x :: r => if x = 0 then runZ r + 1 else 0
def rstep (l : List Int) (s : Nat × Nat) (i : Nat) : Nat × Nat := if s.2 < runZ (l.drop i) then (i, runZ (l.drop i)) else s
def rs (l : List Int) (i : Nat) : Nat × Nat := (List.range i).foldl (rstep l) (8, 1)
end Ho
/- Walks: eight pieces as a text, the document's side, the whole. -/
set_option linter.unusedVariables false
set_option linter.unusedSimpArgs false
namespace Go.Proofs
open Go.Lv
namespace Hs
open Pu Ut Utf In
variable {H : Heap}
end Hs
end Go.Proofs
/- Walks: hosts as texts, may a host be: the document's side. -/
set_option linter.unusedVariables false
set_option linter.unusedSimpArgs false
namespace Go.Proofs
open Go.Lv
namespace Hs
open Pu Ut Utf In
variable {H : Heap}
end Hs
end Go.Proofs
/- Walks: the law of hosts as texts. -/
set_option linter.unusedVariables false
set_option linter.unusedSimpArgs false
namespace Go.Proofs
open Go.Lv
namespace Hs
open Pu Ut Utf In
variable {H : Heap}
theorem opens_int (W : World) {HH : Type} {enc : TypeId × Value → HH} : Opens Tryz.prog W enc 3 (fun n : Int => [AV.v (.int .i64 n)]) (fun n => (Lit.int .i64 n).wf = true) := Opens.int Tryz.underlying3 (by kernel_rfl)
structure HostV where
 k : Int
 n : List UInt8
 v : Int
 l : List Int
def HostV.cells (h : HostV) : List AV := hcells h.k h.n h.v h.l
def HostV.ok (h : HostV) : Prop := h.n.length ≤ 140737488351232 ∧ (Lit.int .u32 h.v).wf = true ∧ h.l.length = 8 ∧ ∀ x ∈ h.l, (Lit.int .u16 x).wf = true
theorem opens_host {W : World} {HH : Type} {enc : TypeId × Value → HH} : Opens Tryz.prog W enc 29 HostV.cells HostV.ok :=
 Opens.iso (fun p : Int × List UInt8 × Int × List Int × Unit => (⟨p.1, p.2.1, p.2.2.1, p.2.2.2.1⟩ : HostV))
  (Opens.struct Tryz.underlying29 (tot := 11) (by kernel_rfl)
   (OpensF.cons (n0 := 1) (opens_int W) rfl (by kernel_rfl) (OpensF.cons (n0 := 1) (Opens.str Tryz.underlying9 (by kernel_rfl)) rfl (by kernel_rfl) (OpensF.cons (n0 := 1) (Opens.int Tryz.underlying25 (by kernel_rfl)) rfl (by kernel_rfl) (OpensF.cons (n0 := 8) (Opens.array Tryz.underlying27 Tryz.underlying26 (by kernel_rfl) (by kernel_rfl)) rfl (by kernel_rfl) OpensF.nil rfl) rfl) rfl) rfl))
  (fun p => by obtain ⟨a, b, c, d, e⟩ := p; simp [HostV.cells, hcells]) (fun p hp => ⟨hp.2.1, hp.2.2.1, hp.2.2.2.1.1, hp.2.2.2.1.2⟩)
end Hs
end Go.Proofs
