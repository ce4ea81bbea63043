import Derived.Test.YticlhjamafdmfaaLvU
set_option linter.unusedVariables false
set_option linter.unusedSimpArgs false
namespace Go.Lv
section
variable {P : Program} {C : Cfg} {call : CallF} {all : Array Oper} {G : Nat → Prop} {F0 : Facts} {L0 : List Nat} {w0 : World} {N : Nat} {E : Nat → Env} {Hs : Nat → Heap} {V : Nat → AV}

def left (listed : Array Bool) (n : Nat) : List Nat := (List.range n).filter fun i => !listed.getD i false

theorem left_step {listed : Array Bool} {n i : Nat} (hi : i < n) (hs : listed.size = n) (hl : listed.getD i false = false) : (left (listed.setIfInBounds i true) n).length < (left listed n).length := by
  have : left (listed.setIfInBounds i true) n = (left listed n).filter fun j => !(j == i) := by
    unfold left
    rw [List.filter_filter]
    apply List.filter_congr
    intro j hj
    by_cases h : i = j
    · subst h
      simp [Array.getD_eq_getD_getElem?, Array.getElem?_setIfInBounds, hs, hi]
    · rw [getD_set_ne false h]
      have : (j == i) = false := by simpa using fun e => h e.symm
      simp [this]
  rw [this]
  refine List.length_filter_lt_length_iff_exists.2 ⟨i, ?_, by simp⟩
  unfold left
  exact List.mem_filter.2 ⟨List.mem_range.2 hi, by rw [hl]; rfl⟩

theorem any_ok {call : CallF} (hK : Known P C call) {Oat : Nat → OSet} (T : Tr P C call all E Hs V) (hD : Drw all) (hO : Own0 P C N all Oat) {Q : Exit → Act → World → Prop}
    (hQ : ∀ F' L' a' w', Inv P G F0 L0 w0 N (Oat all.size) (E all.size) (Hs all.size) F' L' a' w' → Q .normal a' w') :
    ∀ (fuel : Nat) (listed : Array Bool) (p : Nat) (F : Facts) (L : List Nat) (a : Act) (w : World), listed.size = all.size → (left listed all.size).length ≤ fuel →
      InvD P G F0 L0 w0 N all E Hs V Oat (fun i => listed.getD i false = true) p F L a w → wpAny P .any all Q fuel listed a w := by
  -- where nothing may come up any more, all has come up
  have done : ∀ (listed : Array Bool) (p : Nat) (F : Facts) (L : List Nat) (a : Act) (w : World), listed.size = all.size → InvD P G F0 L0 w0 N all E Hs V Oat (fun i => listed.getD i false = true) p F L a w → Region.ready .any all listed = [] → Q .normal a w := by
    intro listed p F L a w hs h hr
    have hall : ∀ i, i < all.size → listed.getD i false = true := by
      intro i
      induction i using Nat.strongRecOn with
      | _ i ih =>
        intro hi
        cases hl : listed.getD i false with
        | true => rfl
        | false =>
          have : i ∈ Region.ready .any all listed := by
            refine mem_ready.2 ⟨?_, all[i], by simp, fun e he hb => ih e.on ((hD.cls i all[i] (by simp)).2 e he) (by have := (hD.cls i all[i] (by simp)).2 e he; omega)⟩
            rw [Array.getD_eq_getD_getElem?] at hl ⊢
            have : i < listed.size := by omega
            simp [this] at hl ⊢
            exact hl
          rw [hr] at this
          cases this
    obtain ⟨e, hE, hI⟩ := h.env
    have hno : ∀ (j : Nat) (o : Oper), p ≤ j → j < all.size → all[j]? = some o → effOp o.op = false := by
      intro j o hpj hj ho
      cases he : effOp o.op with
      | false => rfl
      | true =>
        have := (h.thr j o ho he).1 (hall j hj)
        omega
    have e1 : Hs all.size = Hs p := T.same hD _ h.ple (Nat.le_refl _) hno
    have e2 : Oat all.size = Oat p := hO.same _ h.ple (Nat.le_refl _) hno
    have e3 : E all.size = e := by
      funext t
      by_cases hx : ∃ (j : Nat) (o : Oper), all[j]? = some o ∧ o.dst = some t
      · obtain ⟨j, o, hj, hd⟩ := hx
        have hjl : j < all.size := (Array.getElem?_eq_some_iff.1 hj).1
        rw [T.hit hD hj hd _ hjl (Nat.le_refl _), hE.hit j o t hj (hall j hjl) hd]
      · rw [T.miss _ (Nat.le_refl _) (fun j o _ hj hd => hx ⟨j, o, hj, hd⟩), hE.miss t (fun j o hj _ hd => hx ⟨j, o, hj, hd⟩)]
    exact hQ F L a w (by rw [e1, e2, e3]; exact hI)
  intro fuel
  induction fuel with
  | zero =>
    intro listed p F L a w hs hl h
    have hr : Region.ready .any all listed = [] := by
      cases hr : Region.ready .any all listed with
      | nil => rfl
      | cons i l =>
        have hi : i ∈ Region.ready .any all listed := by rw [hr]; exact List.mem_cons_self
        obtain ⟨h1, o, ho, _⟩ := mem_ready.1 hi
        have hil : i < all.size := (Array.getElem?_eq_some_iff.1 ho).1
        have : i ∈ left listed all.size := by
          unfold left
          have : listed.getD i false = false := by
            rw [Array.getD_eq_getD_getElem?] at h1 ⊢
            have : i < listed.size := by omega
            simp [this] at h1 ⊢
            exact h1
          exact List.mem_filter.2 ⟨List.mem_range.2 hil, by rw [this]; rfl⟩
        have h0 : left listed all.size = [] := List.eq_nil_of_length_eq_zero (by omega)
        rw [h0] at this
        cases this
    exact ⟨hr, done listed p F L a w hs h hr⟩
  | succ fuel ih =>
    intro listed p F L a w hs hl h
    refine ⟨done listed p F L a w hs h, fun i hi => ?_⟩
    obtain ⟨h1, o, ho, h2⟩ := mem_ready.1 hi
    have hil : i < all.size := (Array.getElem?_eq_some_iff.1 ho).1
    have hun : listed.getD i false = false := by
      rw [Array.getD_eq_getD_getElem?] at h1 ⊢
      have : i < listed.size := by omega
      simp [this] at h1 ⊢
      exact h1
    refine h.step hK T hD hO ho (fun x hx => ?_) (by simp [hun]) (fun F' L' a' w' p' h' => ih (listed.setIfInBounds i true) p' F' L' a' w' (by simpa using hs) (by have := left_step hil hs hun; omega) ?_)
    · obtain ⟨o', ho', e, he, hb, hon⟩ := hasE_some hx
      rw [ho] at ho'
      injection ho' with ho'
      subst ho'
      exact hon ▸ h2 e he hb
    · have hset : (fun j => (listed.setIfInBounds i true).getD j false = true) = fun j => listed.getD j false = true ∨ j = i := by
        funext j
        by_cases hj : i = j
        · subst hj
          simp [Array.getD_eq_getD_getElem?, Array.getElem?_setIfInBounds, hs, hil]
        · rw [getD_set_ne false hj]
          have : (j = i) = False := by simpa using fun e : j = i => hj e.symm
          rw [this, or_false]
      rw [hset]
      exact h'

theorem draw_ok {call : CallF} (hK : Known P C call) (hm : P.follows .mixedOrders = true) {id : Nat} {O O' : OSet} {e e' : Env} {H H' : Heap} {F : Facts} {L : List Nat} {a : Act} {w : World} {Q : Exit → Act → World → Prop}
    (hI : Inv P G F0 L0 w0 N O e H F L a w) (hc : chkDraw P C N all O = some O') (h : lopsD P C call all 0 all.toList e H {} = some (e', H'))
    (hQ : ∀ F' L' a' w', Inv P G F0 L0 w0 N O' e' H' F' L' a' w' → Q .normal a' w') : (Code.region id all true).wp P Q a w := by
  unfold chkDraw at hc
  split at hc
  · rename_i hd
    have hD := drwOK_spec hd
    obtain ⟨E, Hs, V, e1, e2, e3, e4, T⟩ := trace_of all.toList 0 e H {} e' H' h
    obtain ⟨Oat, o1, o2, o3⟩ := chkEffs_at all.toList 0 _ O' hc
    simp only [Nat.zero_add, Array.length_toList] at e3 e4 o2
    have hO : Own0 P C N all Oat := by
      refine ⟨fun i o hi => ?_, fun i o hi he => ?_, fun i o hi he => ?_, fun q hq j o hj he hdst => ?_⟩
      · exact (o3 i o (by simpa using hi)).1
      · have := (o3 i o (by simpa using hi)).2.1 he
        simpa using this
      · have := (o3 i o (by simpa using hi)).2.2 he
        simpa using this
      · rw [o1] at hq
        simp only [List.mem_filter, Bool.not_eq_true', List.any_eq_false] at hq
        have := hq.2 o (by simpa using Array.mem_of_getElem? hj)
        simp [hdst, he] at this
    refine wp_region_any hm ?_
    have hfalse : ∀ i, (Array.replicate all.size false).getD i false = false := by
      intro i
      rw [Array.getD_eq_getD_getElem?, Array.getElem?_replicate]
      split <;> rfl
    have hId : Inv P G F0 L0 w0 N (Oat 0) (E 0) (Hs 0) F L a { w with drawn := w.drawn + 1 } := by
      rw [e1, e2]
      have hI1 : Inv P G F0 L0 w0 N (Oat 0) e H F L a w := hI.sub (by rw [o1]; exact fun p hp => (List.mem_filter.1 hp).1)
      have hst : St P F L NX { w with drawn := w.drawn + 1 } H := ⟨hI1.st.mem, hI1.st.len, hI1.st.obj, hI1.st.lt, hI1.st.nof, hI1.st.nox, hI1.st.inj, hI1.st.xlt, hI1.st.room0, hI1.st.mob⟩
      exact ⟨hst, ⟨hI1.goes.size, hI1.goes.keep, hI1.goes.mono, hI1.goes.pre, hI1.goes.newL, hI1.goes.rest, hI1.goes.room⟩, hI1.tie, hI1.size, hI1.defers, hI1.own, hI1.apart, hI1.frm⟩
    refine any_ok hK T hD hO (fun F' L' a' w' hI' => hQ F' L' a' w' (by rw [← e3, ← e4, ← o2]; exact hI')) all.size _ 0 F L a _ (by simp) ?_ ⟨⟨E 0, ⟨fun j o t hj hDj => ?_, fun t _ => rfl⟩, hId⟩, Nat.zero_le _, fun j o hj he => ?_, fun i hi => ?_, fun i o s d hi hDi => ?_⟩
    · unfold left
      exact Nat.le_trans (List.length_filter_le _ _) (by simp)
    · rw [hfalse] at hDj; cases hDj
    · rw [hfalse]
      simp
    · rw [hfalse] at hi; cases hi
    · rw [hfalse] at hDi; cases hDi
  · cases hc
end
end Go.Lv
