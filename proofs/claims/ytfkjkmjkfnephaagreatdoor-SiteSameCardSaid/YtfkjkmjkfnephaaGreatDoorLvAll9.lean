/- A value semantics of the loaded code, its soundness, and walks through functions over it. -/
import Derived.Test.YtfkjkmjkfnephaaGreatDoorLvAll6
import Derived.Below
import Derived.Laws.AppendOwn
set_option linter.unusedVariables false
set_option linter.unusedSimpArgs false
namespace Go.Lv
open Go.RowKit (Below)
section
variable {P : Program} {F : Facts} {L : List Nat} {w : World} {H : Heap} {X : Nat → Prop}
theorem St.below (hS : St P F L X w H) {w' : World} (hb : Below w.heap.size w w') : St P F L X w' H ∧ Goes (fun _ => False) F L w F L w' := by
 have hg : Goes (fun _ => False) F L w F L w' := ⟨hb.size, fun B hB _ _ => ⟨hb.block B hB, fun _ => rfl⟩, fun _ _ _ h => h, fun _ _ h => h, fun _ h => .inl h, ⟨hb.os, hb.tape, hb.output⟩, fun _ => Nat.le_refl _⟩
 refine ⟨⟨fun B i v h => ?_, hS.len, fun j cs B hj hne hmv hB => ?_, fun B hB => Nat.lt_of_lt_of_le (hS.lt B hB) hb.size, hS.nof, hS.nox, hS.inj, fun B hB => Nat.lt_of_lt_of_le (hS.xlt B hB) hb.size, fun B hB => hS.room0 B (Nat.le_trans hb.size hB), fun j ks vs B hj hB => ?_, hS.rm⟩, hg⟩
 ·obtain ⟨h1, h2⟩ := hS.mem _ _ _ h
  exact ⟨by rw [cell?_same (hb.block B (hS.ltF h))]; exact h1, h2⟩
 ·obtain ⟨arr, t, h1, h2⟩ := hS.obj j cs B hj hne hmv hB
  exact ⟨arr, t, h1.same (hb.block B (hS.ltL (mem_of_get hB))), h2⟩
 ·exact (hS.mob j ks vs B hj hB).goes hg (hb.block B (hS.ltL (mem_of_get hB)))
theorem St.learn (hS : St P F L X w H) {wx : World} {Fx : Facts} {Lx : List Nat} {B : Nat} {arr : List Value} {t : TypeId} {fr : Nat × Nat} {vs : List Value} (hB : wx.heap.size ≤ B) (hL : B ∉ L) (hn : ∀ i, F B i = none) (hw : w.heap[B]? = some (.cells arr.toArray t fr)) (hgo : Goes (fun _ => False) Fx Lx wx F L w)
  (hv : ∀ (i : Nat) v, vs[i]? = some v → arr[i]? = some v ∧ v.oneCell' = true) : St P (addF F B vs) L X w H ∧ Goes (fun _ => False) Fx Lx wx (addF F B vs) L w := by
 have hm : ∀ b i v, F b i = some v → addF F B vs b i = some v := by
  intro b i v h
  rw [addF_get]
  split
  ·rename_i hb; subst hb; rw [hn] at h; cases h
  ·exact h
 have hmono : ∀ {a v}, Rel F L a v → Rel (addF F B vs) L a v := fun h => h.mono hm (fun _ => Nat.le_refl _) (fun _ _ h => h)
 refine ⟨⟨fun b i v h => ?_, hS.len, fun j cs b hj hne hmv hb => ?_, hS.lt, fun j cs b hj hne hb i hi => ?_, hS.nox, hS.inj, hS.xlt, hS.room0, fun j ks us b hj hb => ?_, hS.rm⟩, ⟨hgo.size, fun b hb hg hLb => ?_, fun b i v h => hm _ _ _ (hgo.mono _ _ _ h), hgo.pre, hgo.newL, hgo.rest, hgo.room⟩⟩
 ·rw [addF_get] at h
  split at h
  ·rename_i hb
   subst hb
   obtain ⟨h1, h2⟩ := hv _ _ h
   exact ⟨by rw [cell?_eq hw]; exact h1, h2⟩
  ·exact hS.mem _ _ _ h
 ·obtain ⟨arr', t', h1, h2, h3, h4⟩ := hS.obj j cs b hj hne hmv hb
  exact ⟨arr', t', h1, h2, h3, fun k c hk => hmono (h4 k c hk)⟩
 ·rw [addF_get, if_neg (fun he => hL (by rw [← he]; exact mem_of_get hb))]
  exact hS.nof j cs b hj hne hb i hi
 ·obtain ⟨es, fs, clk, h1, hst, hpm, h2, h3, h4, h5⟩ := hS.mob j ks us b hj hb
  exact ⟨es, fs, clk, h1, hst, hpm, h2, h3, fun i k hk => by obtain ⟨e, he, hr⟩ := h4 i k hk; exact ⟨e, he, hmono hr⟩, fun i v hv => by obtain ⟨e, he, hr⟩ := h5 i v hv; exact ⟨e, he, hmono hr⟩⟩
 ·obtain ⟨h1, h2⟩ := hgo.keep b hb hg hLb
  exact ⟨h1, fun i => by rw [addF_get, if_neg (by omega)]; exact h2 i⟩
def cloneSig (n : Nat) : Sig := { ps := [], rs := [(0, n)] }
theorem clone_endT {n : Nat} {t : TypeId} {xs : List AV} {news : List Value} {vs : List Value} {v' : Value} {w' : World} (hS : St P F L NX w H) (hr : Row F L n xs news) (h1 : ∀ u ∈ news, u.oneCell' = true) (hn : 0 < n) (h0 : 0 < xs.length) (ho : w'.ownsRow w.heap.size t n v' xs.length news) (hb : Below w.heap.size w w') :
  ∃ F' L', Ret P {} F L w vs (.ow xs H.length) (H ++ [[.tk (xs.length * n)]]) v' F' L' w' := by
 obtain ⟨hS1, hg1⟩ := hS.below hb
 obtain ⟨hl, ho⟩ := ho
 rcases ho with ⟨rfl, h00⟩ | ⟨g, cap, cur, rfl, hbg, hw, hnc, hcm, hsz, htk⟩
 ·omega
 ·have hgL : g ∉ L := fun h => by have := hS.lt g h; omega
  have hgF : ∀ i, F g i = none := fun i => by
   cases h : F g i with
   | none => rfl
   | some v => have := hS.ltF h; omega
  have hw2 : w'.heap[g]? = some (.cells (List.toArray cur.toList) t (0, 0)) := by simpa using hw
  have hnews : ∀ (i : Nat) v, news[i]? = some v → cur.toList[i]? = some v ∧ v.oneCell' = true := by
   intro i v hi
   refine ⟨?_, h1 v (List.mem_of_getElem? hi)⟩
   rw [← htk, List.getElem?_take] at hi
   split at hi
   ·exact hi
   ·cases hi
  obtain ⟨hS2, hg2⟩ := hS1.learn (vs := news) hbg hgL hgF hw2 hg1 hnews
  have hcs : cur.toList.length = cap * n := by rw [Array.length_toList]; exact hsz
  have hpos : 0 < xs.length * n := Nat.mul_pos h0 hn
  have hle : xs.length * n ≤ cap * n := Nat.mul_le_mul_right n hnc
  obtain ⟨F', f1, f2, hS3, hg3⟩ := hS2.addTk (lo := xs.length * n) (r := cap * n) hw2 hgL (by omega) (hS.room0 g hbg) (by omega) (fun i hi => by rw [addF_get, if_pos rfl, List.getElem?_eq_none (by rw [hl]; exact hi)]) hg2 hbg
  refine ⟨F', _, ?_, hS3, hg3.weaken (fun _ _ h => h.elim), by simp, by simp⟩
  refine Rel.mkOw (hr.goes hg3) hn h0 hnc (fun j u hj => ?_) ?_ ?_ ?_
  ·rw [f1, addF_get, if_pos rfl]; exact hj
  ·rw [← hS.len, xgR (Nat.le_refl _), Nat.sub_self]; rfl
  ·omega
  ·have : maxLen ≤ 9223372036854775807 := by unfold maxLen; omega
   omega
end
end Go.Lv
