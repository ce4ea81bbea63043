/- A value semantics of the loaded code, its soundness, and walks through functions over it. -/
import Derived.Test.YtiboedaicjkfnaaGreatDoorLvAll6
import Derived.Below
import Derived.Laws.AppendOwn
set_option linter.unusedVariables false
set_option linter.unusedSimpArgs false
namespace Go.Lv
open Go.RowKit (Below)
section
variable {P : Program} {F : Facts} {L : List Nat} {w : World} {H : Heap} {X : Nat → Prop}
theorem St.below (hS : St P F L X w H) {w' : World} (hb : Below w.heap.size w w') : St P F L X w' H ∧ Goes (fun _ => False) F L w F L w' := by
 have hg : Goes (fun _ => False) F L w F L w' := ⟨hb.size, fun B hB _ _ => ⟨hb.block B hB, fun _ => rfl⟩, fun _ _ _ h => h, fun _ _ h => h, fun _ h => .inl h, ⟨hb.os, hb.tape, hb.output⟩, fun _ => Nat.le_refl _⟩
 refine ⟨⟨fun B i v h => ?_, hS.len, fun j cs B hj hne hmv hB => ?_, fun B hB => Nat.lt_of_lt_of_le (hS.lt B hB) hb.size, hS.nof, hS.nox, hS.inj, fun B hB => Nat.lt_of_lt_of_le (hS.xlt B hB) hb.size, fun B hB => hS.room0 B (Nat.le_trans hb.size hB), fun j ks vs B hj hB => ?_, hS.rm⟩, hg⟩
 ·obtain ⟨h1, h2⟩ := hS.mem _ _ _ h
  exact ⟨by rw [cell?_same (hb.block B (hS.ltF h))]; exact h1, h2⟩
 ·obtain ⟨arr, t, h1, h2⟩ := hS.obj j cs B hj hne hmv hB
  exact ⟨arr, t, h1.same (hb.block B (hS.ltL (mem_of_get hB))), h2⟩
 ·exact (hS.mob j ks vs B hj hB).goes hg (hb.block B (hS.ltL (mem_of_get hB)))
def cloneSig (n : Nat) : Sig := { ps := [], rs := [(0, n)] }
end
end Go.Lv
