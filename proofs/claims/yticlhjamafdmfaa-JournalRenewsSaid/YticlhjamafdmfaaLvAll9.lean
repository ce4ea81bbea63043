/- A value semantics of the loaded code, its soundness, and walks through functions over it. -/
import Derived.Test.YticlhjamafdmfaaLvAll7
import Derived.Maps.RangeRun
import Derived.Test.YticlhjamafdmfaaLvAll5
import Derived.Test.YticlhjamafdmfaaLvAll8
set_option linter.unusedVariables false
set_option linter.unusedSimpArgs false
/-! Loops over maps, in whatever order. -/
namespace Go.Lv
open Go.RowKit (Below)
section
variable {P : Program} {F : Facts} {L : List Nat} {w : World} {H : Heap} {X : Nat → Prop}

theorem perm_pick : ∀ (l : List MapEntry) (e : MapEntry), (l.map (·.born)).Nodup → e ∈ l → l.Perm (e :: l.filter fun x => x.born != e.born) := by
  intro l
  induction l with
  | nil => intro e _ h; simp at h
  | cons x l ih =>
    intro e hn he
    rw [List.map_cons, List.nodup_cons] at hn
    rcases List.mem_cons.1 he with rfl | he
    · have : (e :: l).filter (fun x => x.born != e.born) = l := by
        rw [List.filter_cons_of_neg (by simp)]
        apply List.filter_eq_self.2
        intro y hy
        simp only [bne_iff_ne, ne_eq]
        intro h
        exact hn.1 (h ▸ List.mem_map_of_mem hy)
      rw [this]
    · have hne : x.born ≠ e.born := fun h => hn.1 (h ▸ List.mem_map_of_mem he)
      rw [List.filter_cons_of_pos (by simpa using hne)]
      exact ((ih e hn.2 he).cons x).trans (List.Perm.swap _ _ _)
theorem left_list (es : Array MapEntry) (seen : Array Nat) : (leftOf es seen).toList = es.toList.filter fun e => !seen.contains e.born := by
  unfold leftOf
  simp
theorem left_perm {es : Array MapEntry} {seen : Array Nat} {e : MapEntry} (hn : (es.toList.map (·.born)).Nodup) (he : e ∈ (leftOf es seen).toList) : (leftOf es seen).toList.Perm (e :: (leftOf es (seen.push e.born)).toList) := by
  have h1 : (leftOf es (seen.push e.born)).toList = (leftOf es seen).toList.filter fun x => x.born != e.born := by
    rw [left_list, left_list, List.filter_filter]
    congr 1
    funext x
    rw [contains_push, Bool.not_or, Bool.and_comm]
    rfl
  rw [h1]
  refine perm_pick _ _ ?_ he
  rw [left_list]
  exact (List.filter_sublist.map _).nodup hn
theorem left_none (es : Array MapEntry) : (leftOf es #[]).toList = es.toList := by
  rw [left_list]
  apply List.filter_eq_self.2
  intro x _
  simp

/-- The same, through a map of entries. -/
theorem perm_lift {α β : Type} {φ : α → β} : ∀ {l : List β} {m : List β}, l.Perm m → ∀ os : List α, os.map φ = m → ∃ os' : List α, os'.Perm os ∧ os'.map φ = l := by
  intro l m h
  induction h with
  | nil => intro os h; exact ⟨os, List.Perm.refl _, h⟩
  | cons x h ih =>
    intro os ho
    cases os with
    | nil => cases ho
    | cons o os =>
      injection ho with h1 h2
      obtain ⟨os', h3, h4⟩ := ih os h2
      exact ⟨o :: os', h3.cons o, by rw [List.map_cons, h1, h4]⟩
  | swap x y l =>
    intro os ho
    match os, ho with
    | a :: b :: os, ho =>
      injection ho with h1 h2
      injection h2 with h2 h3
      exact ⟨b :: a :: os, List.Perm.swap a b os, by simp [h1, h2, h3]⟩
  | trans h1 h2 ih1 ih2 =>
    intro os ho
    obtain ⟨os1, h3, h4⟩ := ih2 os ho
    obtain ⟨os2, h5, h6⟩ := ih1 os1 h4
    exact ⟨os2, h5.trans h3, h6⟩

/-- Nothing was found. -/
theorem find_fresh {d : TypeDesc} {kv : Value} {es : List MapEntry} (hd : d = .string) (hk : MapKept.IsKey d kv) (hs : ∀ e ∈ es, MapKept.IsKey d e.key) (hne : ∀ e ∈ es, e.key ≠ kv) : Instr.findNow d kv es 0 = some none := by
  subst hd
  refine findNow_none es 0 fun e he => ?_
  have h1 := hs e he
  have h2 := hne e he
  generalize e.key = k at *
  cases kv <;> simp [MapKept.IsKey] at hk
  cases k <;> simp [MapKept.IsKey] at h1
  rename_i a b
  simp only [Instr.sameNow]
  congr 1
  cases hb : a == b with
  | false => rfl
  | true => exact absurd (congrArg Value.string ((bytes_beq' _ _).1 hb).symm) h2

/-- A map is known that stands in a new block. -/
theorem St.addMap (hS : St P F L X w H) {B : Nat} {ks vs : List AV} (hBL : B ∉ L) (hBX : ¬ X B) (hF : ∀ i, F B i = none) (hlt : B < w.heap.size) (hm : MapAt F L w B ks vs) : St P F (L ++ [B]) X w (H ++ [[.mv ks vs]]) := by
  have hpre : ∀ (j B' : Nat), L[j]? = some B' → (L ++ [B])[j]? = some B' := by
    intro j B' h
    rw [List.getElem?_append_left (List.getElem?_eq_some_iff.1 h).1]
    exact h
  have hmono : ∀ {a v}, Rel F L a v → Rel F (L ++ [B]) a v := fun h => h.mono (fun _ _ _ h => h) (fun _ => Nat.le_refl _) hpre
  have hmap : ∀ {B' ks vs}, MapAt F L w B' ks vs → MapAt F (L ++ [B]) w B' ks vs := by
    rintro B' ks vs ⟨es, fs, clk, h1, h2, h3, h4, h5, h6, h7⟩
    exact ⟨es, fs, clk, h1, h2, h3, h4, h5, fun i k hk => by obtain ⟨e, he, hr⟩ := h6 i k hk; exact ⟨e, he, hmono hr⟩, fun i v hv => by obtain ⟨e, he, hr⟩ := h7 i v hv; exact ⟨e, he, hmono hr⟩⟩
  have old : ∀ (j : Nat) cs' B', (H ++ [[.mv ks vs]])[j]? = some cs' → (L ++ [B])[j]? = some B' → (H[j]? = some cs' ∧ L[j]? = some B') ∨ (j = L.length ∧ cs' = [.mv ks vs] ∧ B' = B) := by
    intro j cs' B' hj hB
    rcases Nat.lt_or_ge j L.length with hjl | hjl
    · rw [List.getElem?_append_left hjl] at hB
      rw [List.getElem?_append_left (hS.len ▸ hjl)] at hj
      exact .inl ⟨hj, hB⟩
    · rw [List.getElem?_append_right hjl] at hB
      rw [List.getElem?_append_right (hS.len ▸ hjl)] at hj
      have h1 := (List.getElem?_eq_some_iff.1 hB).1
      simp at h1
      have h0 : j - L.length = 0 := by omega
      rw [h0] at hB
      rw [← hS.len, h0] at hj
      injection hB with hB; injection hj with hj
      exact .inr ⟨by omega, hj.symm, hB.symm⟩
  refine { mem := hS.mem, len := by simp [hS.len], obj := fun j cs B' hj hne hmv hB => ?_, lt := fun b hb => ?_, nof := fun j cs B' hj hne hB i hi => ?_, nox := fun b hb => ?_, inj := fun i j cs ds b hi hn1 hj hn2 hbi hbj => ?_, xlt := hS.xlt, room0 := hS.room0, mob := fun j ks' vs' b hj hb => ?_ }
  · rcases old j cs B' hj hB with ⟨h1, h2⟩ | ⟨h1, rfl, rfl⟩
    · obtain ⟨arr', t', h3, h4, h5, h6⟩ := hS.obj j cs B' h1 hne hmv h2
      exact ⟨arr', t', h3, h4, h5, fun k c hk => hmono (h6 k c hk)⟩
    · cases hmv
  · rcases List.mem_append.1 hb with h | h
    · exact hS.lt b h
    · simp at h; subst h; exact hlt
  · rcases old j cs B' hj hB with ⟨h1, h2⟩ | ⟨h1, rfl, rfl⟩
    · exact hS.nof j cs B' h1 hne h2 i hi
    · exact hF i
  · rcases List.mem_append.1 hb with h | h
    · exact hS.nox b h
    · simp at h; subst h; exact hBX
  · rcases old i cs b hi hbi with ⟨h1, h2⟩ | ⟨h1, h1', rfl⟩ <;> rcases old j ds b hj hbj with ⟨h3, h4⟩ | ⟨h3, h3', h3''⟩
    · exact hS.inj i j cs ds b h1 hn1 h3 hn2 h2 h4
    · subst h3''; exact absurd (mem_of_get h2) hBL
    · exact absurd (mem_of_get h4) hBL
    · omega
  · rcases old j _ b hj hb with ⟨h1, h2⟩ | ⟨h1, h2, rfl⟩
    · exact hmap (hS.mob j ks' vs' b h1 h2)
    · injection h2 with h2 _; injection h2 with h2 h3; subst h2 h3
      exact hmap hm
end
end Go.Lv
set_option linter.unusedVariables false
set_option linter.unusedSimpArgs false
/-! Maps copied, and the lengths of what they hold added up. -/
namespace Go.Lv
open Go.RowKit (Below)
section
variable {P : Program} {F : Facts} {L : List Nat} {w : World} {H : Heap}

def strKey : AV → Bool
  | .v (.string _) => true
  | _ => false
def kvOf (e : MapEntry) : Value × Value := (e.key, e.val)

/-- What a copy's loop comes to. -/
def CopiesMap (P : Program) (f : FuncId) : Prop :=
  ∀ (w : World) (B : Nat) (es : Array MapEntry) (clk : Nat), w.heap[B]? = some (.map es clk) → MapKept.Stamped es clk → (∀ x ∈ es.toList, MapKept.IsKey .string x.key) →
    Calls P f #[.map (some B)] w fun e w' => e = .returned (.map (some w.heap.size)) ∧ ∃ os oclk, w'.heap[w.heap.size]? = some (.map os oclk) ∧ MapKept.Stamped os oclk ∧ (es.toList.map kvOf).Perm (os.toList.map kvOf) ∧ Below w.heap.size w w'

def copiedT (H : Heap) : List AV → Option (AV × Heap)
  | [.mp j] => (mapOf H j).bind fun kv => if kv.1.all strKey = true then some (.mp H.length, H ++ [[.mv kv.1 kv.2]]) else none
  | _ => none

theorem keys_str {ks : List AV} {es fs : List MapEntry} (hpm : fs.Perm es) (hl : ks.length = fs.length) (h4 : ∀ (i : Nat) k, ks[i]? = some k → ∃ e, fs[i]? = some e ∧ Rel F L k e.key) (hk : ks.all strKey = true) : ∀ x ∈ es, MapKept.IsKey .string x.key := by
  intro x hx
  have hx' := hpm.mem_iff.2 hx
  obtain ⟨i, hi⟩ := List.mem_iff_getElem?.1 hx'
  have hil := (List.getElem?_eq_some_iff.1 hi).1
  have hki : ks[i]? = some ks[i] := List.getElem?_eq_getElem (by omega)
  obtain ⟨e, he, hr⟩ := h4 i _ hki
  rw [hi] at he; injection he with he; subst he
  have := List.all_eq_true.1 hk _ (List.mem_of_getElem? hki)
  generalize ks[i] = k at *
  unfold strKey at this
  split at this
  · obtain ⟨e, _⟩ := hr.v_eq
    rw [← e]; trivial
  · cases this

theorem copiedT_ok {f : FuncId} (hc : CopiesMap P f) {args : List AV} {r : AV} {H' : Heap} (h : copiedT H args = some (r, H')) : CallOK P {} f args H r H' := by
  intro F L w vs hS hvl hrel hown
  unfold copiedT at h
  split at h
  · rename_i j
    obtain ⟨⟨ks, us⟩, hmo, h⟩ := Option.bind_eq_some_iff.1 h
    simp only at h
    split at h
    · rename_i hks
      injection h with h; injection h with h1 h2; subst h1 h2
      match vs, hvl with
      | [v], _ =>
        have r0 : Rel F L (.mp j) v := hrel 0 _ rfl
        cases r0 with
        | mp _ B hB =>
          obtain ⟨es, fs, clk, h1, hst, hpm, h2, h3, h4, h5⟩ := hS.mob j ks us B (mapOf_some hmo) hB
          refine (hc w B es.toArray clk h1 hst (by simpa using keys_str hpm h2 h4 hks)).mono ?_
          rintro e w' ⟨rfl, os, oclk, ho, hso, hpo, hb⟩
          obtain ⟨hS1, hg1⟩ := hS.below hb
          have hpf : (fs.map kvOf).Perm (os.toList.map kvOf) := (hpm.map kvOf).trans (by simpa using hpo)
          obtain ⟨os', hp1, hp2⟩ := perm_lift hpf os.toList rfl
          have hlen : os'.length = fs.length := by have := congrArg List.length hp2; simpa using this
          have hget : ∀ (i : Nat) (e : MapEntry), fs[i]? = some e → ∃ e', os'[i]? = some e' ∧ e'.key = e.key ∧ e'.val = e.val := by
            intro i e he
            have h1 : (os'.map kvOf)[i]? = (fs.map kvOf)[i]? := by rw [hp2]
            rw [List.getElem?_map, List.getElem?_map, he] at h1
            obtain ⟨e', h2, h3⟩ := Option.map_eq_some_iff.1 h1
            injection h3 with h3 h4
            exact ⟨e', h2, h3, h4⟩
          have hm : MapAt F L w' w.heap.size ks us := by
            refine ⟨os.toList, os', oclk, by simpa using ho, by simpa using hso, hp1, by omega, by omega, fun i k hk => ?_, fun i v hv => ?_⟩
            · obtain ⟨e, he, hr⟩ := h4 i k hk
              obtain ⟨e', h1, h2, h3⟩ := hget i e he
              exact ⟨e', h1, by rw [h2]; exact hr⟩
            · obtain ⟨e, he, hr⟩ := h5 i v hv
              obtain ⟨e', h1, h2, h3⟩ := hget i e he
              exact ⟨e', h1, by rw [h3]; exact hr⟩
          have hbL : w.heap.size ∉ L := fun hm => by have := hS.lt _ hm; omega
          have hlt : w.heap.size < w'.heap.size := (Array.getElem?_eq_some_iff.1 ho).1
          have hS2 := hS1.addMap (B := w.heap.size) hbL (by intro h; exact h.elim) (fun i => by
            cases hf : F w.heap.size i with
            | none => rfl
            | some v => have := hS.ltF hf; omega) hlt hm
          refine ⟨_, F, _, rfl, ?_, hS2, ⟨hg1.size, fun b hb hg hL => hg1.keep b hb (fun h => h.elim) hL, hg1.mono, fun j' b hj => ?_, fun b hb => ?_, hg1.rest, hg1.room⟩, by simp, by simp⟩
          · refine .mp _ _ ?_
            rw [← hS.len, List.getElem?_append_right (Nat.le_refl _), Nat.sub_self]; rfl
          · rw [List.getElem?_append_left (List.getElem?_eq_some_iff.1 hj).1]; exact hj
          · rcases List.mem_append.1 hb with h | h
            · exact .inl h
            · simp at h; subst h; exact .inr (Nat.le_refl _)
      | [], h => simp at h
      | _ :: _ :: _, h => simp at h
    · cases h
  · cases h

/-! ### Lengths added up -/
def lenV : Value → Int
  | .slice _ n _ => n
  | _ => 0
def isSl : Value → Bool
  | .slice .. => true
  | _ => false
def lenA : AV → Option Nat
  | .sl xs => some xs.length
  | .v x => if isNilV x = true then some 0 else none
  | _ => none
def lensA : List AV → Option Nat
  | [] => some 0
  | a :: as_ => (lenA a).bind fun n => (lensA as_).map fun m => n + m

def SumsMap (P : Program) (f : FuncId) : Prop :=
  ∀ (w : World) (B B' : Nat) (arr : Array Value) (t : TypeId) (es : Array MapEntry) (clk : Nat), w.heap[B]? = some (.cells arr t (0, 0)) → arr[1]? = some (.map (some B')) → w.heap[B']? = some (.map es clk) → MapKept.Stamped es clk → (∀ x ∈ es.toList, isSl x.val = true) →
    (es.toList.map fun e => lenV e.val).sum ≤ 4611686018427387904 →
    Calls P f #[.pointer (some ⟨B, 0, none⟩)] w fun e w' => e = .returned (.int .i64 (es.toList.map fun e => lenV e.val).sum) ∧ Below w.heap.size w w'

def usedT (H : Heap) : List AV → Option (AV × Heap)
  | [.ptr j 0] => (H[j]?).bind fun cs => match cs with
    | _ :: .mp a :: _ => (mapOf H a).bind fun kv => (lensA kv.2).bind fun n => if n ≤ 4611686018427387904 then some (.i n, H) else none
    | _ => none
  | _ => none

theorem lenA_rel {a : AV} {v : Value} {n : Nat} (h : lenA a = some n) (hr : Rel F L a v) : isSl v = true ∧ lenV v = n := by
  unfold lenA at h
  split at h
  · rename_i xs
    injection h with h; subst h
    cases hr with
    | sl0 a cap h => exact ⟨rfl, rfl⟩
    | sl xs B o len cap sz vals hl h0 hc hs hn hf hr => exact ⟨rfl, by simp [lenV, hl]⟩
  · rename_i x
    split at h
    · rename_i hx
      injection h with h; subst h
      have := isNilV_spec hx
      subst this
      obtain ⟨e, _⟩ := hr.v_eq
      rw [← e]; exact ⟨rfl, rfl⟩
    · cases h
  · cases h
theorem lensA_rel : ∀ {us : List AV} {fs : List MapEntry} {n : Nat}, lensA us = some n → us.length = fs.length → (∀ (i : Nat) v, us[i]? = some v → ∃ e, fs[i]? = some e ∧ Rel F L v e.val) → (∀ x ∈ fs, isSl x.val = true) ∧ (fs.map fun e => lenV e.val).sum = n := by
  intro us
  induction us with
  | nil =>
    intro fs n h hl hr
    injection h with h; subst h
    have : fs = [] := List.eq_nil_of_length_eq_zero (by simpa using hl.symm)
    subst this
    exact ⟨by simp, rfl⟩
  | cons u us ih =>
    intro fs n h hl hr
    cases fs with
    | nil => simp at hl
    | cons e fs =>
      unfold lensA at h
      obtain ⟨k, hk, h⟩ := Option.bind_eq_some_iff.1 h
      obtain ⟨m, hm, rfl⟩ := Option.map_eq_some_iff.1 h
      obtain ⟨e', he', hre⟩ := hr 0 u rfl
      injection he' with he'; subst he'
      obtain ⟨h1, h2⟩ := lenA_rel hk hre
      obtain ⟨h3, h4⟩ := ih hm (by simpa using hl) (fun i v hv => hr (i + 1) v hv)
      refine ⟨fun x hx => ?_, ?_⟩
      · rcases List.mem_cons.1 hx with rfl | hx
        · exact h1
        · exact h3 x hx
      · rw [List.map_cons, List.sum_cons, h2, h4]; omega
theorem sum_perm {l m : List Int} (h : l.Perm m) : l.sum = m.sum := by
  induction h with
  | nil => rfl
  | cons x h ih => rw [List.sum_cons, List.sum_cons, ih]
  | swap x y l => simp only [List.sum_cons]; omega
  | trans h1 h2 ih1 ih2 => exact ih1.trans ih2

theorem usedT_ok {f : FuncId} (hc : SumsMap P f) {args : List AV} {r : AV} {H' : Heap} (h : usedT H args = some (r, H')) : CallOK P {} f args H r H' := by
  intro F L w vs hS hvl hrel hown
  unfold usedT at h
  split at h
  · rename_i j
    obtain ⟨cs, hj, h⟩ := Option.bind_eq_some_iff.1 h
    split at h
    · rename_i c0 a rest
      obtain ⟨⟨ks, us⟩, hmo, h⟩ := Option.bind_eq_some_iff.1 h
      obtain ⟨n, hn, h⟩ := Option.bind_eq_some_iff.1 h
      split at h
      · rename_i hle
        injection h with h; injection h with h1 h2; subst h1 h2
        match vs, hvl with
        | [v], _ =>
          have r0 : Rel F L (.ptr j 0) v := hrel 0 _ rfl
          cases r0 with
          | ptr _ _ B hB =>
            obtain ⟨arr, t, m1, m2, m3, m4⟩ := hS.obj j _ B hj (by simp) (by simp [isMv]) hB
            have r1 := m4 1 _ rfl
            cases hv1 : arr.getD 1 undef with
            | map b =>
              rw [hv1] at r1
              cases r1 with
              | mp _ B' hB' =>
                obtain ⟨es, fs, clk, h1, hst, hpm, h2, h3, h4, h5⟩ := hS.mob a ks us B' (mapOf_some hmo) hB'
                obtain ⟨k1, k2⟩ := lensA_rel hn h3 h5
                have hsum : (es.map fun e => lenV e.val).sum = n := by rw [← k2]; exact (sum_perm (hpm.map _)).symm
                have harr : arr.toArray[1]? = some (.map (some B')) := by
                  rw [List.getElem?_toArray]
                  have hl : 1 < arr.length := by simp at m2; omega
                  rw [List.getElem?_eq_getElem hl]
                  rw [List.getD_eq_getElem?_getD, List.getElem?_eq_getElem hl] at hv1
                  exact congrArg some hv1
                refine (hc w B B' arr.toArray t es.toArray clk m1 harr h1 hst (fun x hx => k1 x (hpm.mem_iff.2 (by simpa using hx))) (by simp only; rw [hsum]; omega)).mono ?_
                rintro e w' ⟨rfl, hb⟩
                obtain ⟨hS1, hg1⟩ := hS.below hb
                refine ⟨_, F, L, rfl, ?_, hS1, hg1.weaken (fun _ _ h => h.elim), by simp, by simp⟩
                simp only [hsum]
                exact .sc _ rfl
            | _ => rw [hv1] at r1; cases r1
        | [], h => simp at h
        | _ :: _ :: _, h => simp at h
      · cases h
    · cases h
  · cases h
end
end Go.Lv
set_option linter.unusedVariables false
set_option linter.unusedSimpArgs false
/-! A closed call, run by the kernel: the same steps over a tree of variables. -/
namespace Go.Lv

/-- Variables in a tree. -/
inductive VTr where
  | leaf
  | node (a : AV) (l r : VTr)
def VTr.get : VTr → Nat → AV
  | .leaf, _ => .un
  | .node a l r, n => match n with
    | 0 => a
    | m + 1 => bif Nat.beq (m % 2) 0 then l.get (m / 2) else r.get (m / 2)
def VTr.set : Nat → VTr → Nat → AV → Option VTr
  | 0, _, _, _ => none
  | k + 1, t, n, x =>
    let (a, l, r) := match t with | .leaf => (AV.un, VTr.leaf, VTr.leaf) | .node a l r => (a, l, r)
    match n with
    | 0 => some (.node x l r)
    | m + 1 => bif Nat.beq (m % 2) 0 then (match VTr.set k l (m / 2) x with | some l => some (.node a l r) | none => none)
      else (match VTr.set k r (m / 2) x with | some r => some (.node a l r) | none => none)
theorem VTr.set_ok : ∀ (k : Nat) (t : VTr) (n : Nat) (x : AV) (t' : VTr), VTr.set k t n x = some t' → t'.get = upd t.get n x := by
  intro k
  induction k with
  | zero => intro t n x t' h; cases h
  | succ k ih =>
    intro t n x t' h
    have key : ∀ (a : AV) (l r : VTr), (match n with
        | 0 => some (VTr.node x l r)
        | m + 1 => bif Nat.beq (m % 2) 0 then (match VTr.set k l (m / 2) x with | some l => some (VTr.node a l r) | none => none)
          else (match VTr.set k r (m / 2) x with | some r => some (VTr.node a l r) | none => none)) = some t' → t'.get = upd (VTr.node a l r).get n x := by
      intro a l r h
      funext m
      cases n with
      | zero =>
        injection h with h; subst h
        cases m <;> simp [VTr.get, upd]
      | succ n =>
        simp only at h
        cases hb : Nat.beq (n % 2) 0 with
        | true =>
          rw [hb, cond_true] at h
          cases hs : VTr.set k l (n / 2) x with
          | none => rw [hs] at h; cases h
          | some l' =>
            rw [hs] at h
            injection h with h; subst h
            have := ih _ _ _ _ hs
            cases m with
            | zero => simp [VTr.get, upd]
            | succ m =>
              simp only [VTr.get]
              by_cases hmn : m = n
              · subst hmn
                rw [hb, cond_true, this]; simp [upd]
              · have hne : (m + 1 = n + 1) = False := by simp; exact hmn
                rw [upd, if_neg (by omega)]
                simp only [VTr.get]
                cases hm : Nat.beq (m % 2) 0 with
                | true =>
                  rw [cond_true, cond_true, this, upd, if_neg]
                  have h1 := Nat.eq_of_beq_eq_true hb
                  have h2 := Nat.eq_of_beq_eq_true hm
                  omega
                | false => rfl
        | false =>
          rw [hb, cond_false] at h
          cases hs : VTr.set k r (n / 2) x with
          | none => rw [hs] at h; cases h
          | some l' =>
            rw [hs] at h
            injection h with h; subst h
            have := ih _ _ _ _ hs
            cases m with
            | zero => simp [VTr.get, upd]
            | succ m =>
              simp only [VTr.get]
              by_cases hmn : m = n
              · subst hmn
                rw [hb, cond_false, this]; simp [upd]
              · rw [upd, if_neg (by omega)]
                simp only [VTr.get]
                cases hm : Nat.beq (m % 2) 0 with
                | true => rfl
                | false =>
                  rw [cond_false, cond_false, this, upd, if_neg]
                  have h1 := Nat.ne_of_beq_eq_false hb
                  have h2 := Nat.ne_of_beq_eq_false hm
                  omega
    cases t with
    | leaf =>
      have := key .un .leaf .leaf (by cases n <;> exact h)
      rw [this]
      funext m
      simp only [upd]
      split
      · rfl
      · cases m with
        | zero => rfl
        | succ m => simp [VTr.get]
    | node a l r => exact key a l r (by cases n <;> exact h)

def putX (t : VTr) : Option Nat → AV → Option VTr
  | some d, a => t.set 16 d a
  | none, _ => some t
theorem putX_ok {t t' : VTr} {d : Option Nat} {a : AV} (h : putX t d a = some t') : t'.get = put t.get d a := by
  cases d with
  | none => injection h with h; subst h; rfl
  | some d => exact VTr.set_ok _ _ _ _ _ h

/-! ### Values held against one another -/
def eqV : Value → Value → Bool
  | .int k x, .int k' y => decide (k = k') && x == y
  | .bool a, .bool b => a == b
  | .string a, .string b => a == b
  | .pointer none, .pointer none => true
  | .slice none 0 0, .slice none 0 0 => true
  | .map none, .map none => true
  | _, _ => false
theorem eqV_ok {x y : Value} (h : eqV x y = true) : x = y := by
  unfold eqV at h
  split at h
  · simp only [Bool.and_eq_true, decide_eq_true_eq, beq_iff_eq] at h
    rw [h.1, h.2]
  · simp at h; rw [h]
  · rw [(bytes_beq' _ _).1 h]
  · rfl
  · rfl
  · rfl
  · cases h
def eqL (f : AV → AV → Bool) : List AV → List AV → Bool
  | [], [] => true
  | a :: as_, b :: bs => f a b && eqL f as_ bs
  | _, _ => false
theorem eqL_ok {f : AV → AV → Bool} (hf : ∀ a b, f a b = true → a = b) : ∀ {as_ bs : List AV}, eqL f as_ bs = true → as_ = bs := by
  intro as_
  induction as_ with
  | nil => intro bs h; cases bs with
    | nil => rfl
    | cons b bs => cases h
  | cons a as_ ih => intro bs h; cases bs with
    | nil => cases h
    | cons b bs =>
      simp only [eqL, Bool.and_eq_true] at h
      rw [hf _ _ h.1, ih h.2]
def eqA : Nat → AV → AV → Bool
  | 0, _, _ => false
  | k + 1, .v x, .v y => eqV x y
  | k + 1, .ptr i o, .ptr i' o' => i == i' && o == o'
  | k + 1, .mp i, .mp i' => i == i'
  | k + 1, .mr j o l n g, .mr j' o' l' n' g' => j == j' && o == o' && l == l' && n == n' && g == g'
  | k + 1, .sl xs, .sl ys => eqL (eqA k) xs ys
  | k + 1, .agg xs, .agg ys => eqL (eqA k) xs ys
  | k + 1, .ow xs j, .ow ys j' => eqL (eqA k) xs ys && j == j'
  | _ + 1, _, _ => false
theorem eqA_ok : ∀ (k : Nat) (a b : AV), eqA k a b = true → a = b := by
  intro k
  induction k with
  | zero => intro a b h; cases h
  | succ k ih =>
    intro a b h
    unfold eqA at h
    split at h
    · contradiction
    · rw [eqV_ok h]
    · simp only [Bool.and_eq_true, beq_iff_eq] at h; rw [h.1, h.2]
    · simp only [beq_iff_eq] at h; rw [h]
    · simp only [Bool.and_eq_true, beq_iff_eq] at h
      obtain ⟨⟨⟨⟨h1, h2⟩, h3⟩, h4⟩, h5⟩ := h
      rw [h1, h2, h3, h4, h5]
    · rename_i h'; injection h' with h'; subst h'; rw [eqL_ok ih h]
    · rename_i h'; injection h' with h'; subst h'; rw [eqL_ok ih h]
    · rename_i h'; injection h' with h'; subst h'
      simp only [Bool.and_eq_true, beq_iff_eq] at h
      rw [eqL_ok ih h.1, h.2]
    · cases h
def eqO (a : Option AV) (b : AV) : Bool := match a with | some a => eqA 20 a b | none => false
theorem eqO_ok {a : Option AV} {b : AV} (h : eqO a b = true) : a = some b := by
  unfold eqO at h
  split at h
  · rw [eqA_ok _ _ _ h]
  · cases h

def seenX (P : Program) (all : Array Oper) (i : Nat) (e : Env) (S : Seen) (o : Op) (a : AV) (H H' : Heap) : Option Seen :=
  match o with
  | .load t p => bif S.snaps.all fun s => reachE all 8 i s.1 || eqO (loadA P s.2 t (ev e p)) a then some { S with loads := (i, t, ev e p, a) :: S.loads } else none
  | o => bif effOp o then (bif S.loads.all fun l => reachE all 8 i l.1 || eqO (loadA P H' l.2.1 l.2.2.1) l.2.2.2 then some { S with snaps := (i, H) :: S.snaps } else none) else some S
theorem seenX_ok {P : Program} {all : Array Oper} {i : Nat} {e : Env} {S S' : Seen} {o : Op} {a : AV} {H H' : Heap} (h : seenX P all i e S o a H H' = some S') : seenOK P all i e S o a H H' = some S' := by
  unfold seenX at h
  unfold seenOK
  split at h
  · rename_i t p
    simp only
    cases hc : S.snaps.all fun s => reachE all 8 i s.1 || eqO (loadA P s.2 t (ev e p)) a with
    | false => rw [hc] at h; cases h
    | true =>
      rw [hc] at h
      rw [if_pos]
      · exact h
      · intro s hs
        have := List.all_eq_true.1 hc s hs
        simp only [Bool.or_eq_true] at this
        exact this.imp id eqO_ok
  · rename_i hno
    have key : ∀ (o : Op) (n1 n2 : Option Seen), (∀ t p, o ≠ .load t p) → (bif effOp o then n1 else some S) = some S' → (n1 = some S' → n2 = some S') → (if effOp o = true then n2 else some S) = some S' := by
      intro o n1 n2 _ h1 h2
      cases he : effOp o with
      | false => rw [he] at h1; simpa using h1
      | true => rw [he] at h1; rw [if_pos rfl]; exact h2 (by simpa using h1)
    have key2 : (bif S.loads.all fun l => reachE all 8 i l.1 || eqO (loadA P H' l.2.1 l.2.2.1) l.2.2.2 then some { S with snaps := (i, H) :: S.snaps } else none) = some S' →
        (open Classical in if ∀ l ∈ S.loads, reachE all 8 i l.1 = true ∨ loadA P H' l.2.1 l.2.2.1 = some l.2.2.2 then some { S with snaps := (i, H) :: S.snaps } else none) = some S' := by
      intro hx'
      cases hc : S.loads.all fun l => reachE all 8 i l.1 || eqO (loadA P H' l.2.1 l.2.2.1) l.2.2.2 with
      | false => rw [hc] at hx'; cases hx'
      | true =>
        rw [hc] at hx'
        rw [if_pos]
        · exact hx'
        · intro s hs
          have := List.all_eq_true.1 hc s hs
          simp only [Bool.or_eq_true] at this
          exact this.imp id eqO_ok
    cases o <;> first | exact absurd rfl (hno _ _) | exact (hno _ _ rfl).elim | exact key _ _ _ (by intro t p h; cases h) h key2

/-! ### Values laid out -/
def nfI {β : Type} (n : Int) (k : Int → Option β) : Option β := match n with
  | .ofNat m => (match m with | 0 => k (.ofNat 0) | m + 1 => k (.ofNat (m + 1)))
  | .negSucc m => (match m with | 0 => k (.negSucc 0) | m + 1 => k (.negSucc (m + 1)))
theorem nfI_eq {β : Type} (n : Int) (k : Int → Option β) : nfI n k = k n := by
  unfold nfI
  split
  · split <;> rfl
  · split <;> rfl
def nfN {β : Type} (n : Nat) (k : Nat → Option β) : Option β := match n with | 0 => k 0 | m + 1 => k (m + 1)
theorem nfN_eq {β : Type} (n : Nat) (k : Nat → Option β) : nfN n k = k n := by
  unfold nfN
  split <;> rfl
def nf {β : Type} (a : AV) (k : AV → Option β) : Option β := match a with
  | .v (.int kd n) => nfI n fun n => k (.v (.int kd n))
  | .v (.bool true) => k (.v (.bool true))
  | .v (.bool false) => k (.v (.bool false))
  | .ptr j off => nfN j fun j => nfN off fun off => k (.ptr j off)
  | a => k a
theorem nf_eq {β : Type} (a : AV) (k : AV → Option β) : nf a k = k a := by
  unfold nf
  split
  · rw [nfI_eq]
  · rfl
  · rfl
  · rw [nfN_eq, nfN_eq]
  · rfl

/-! ### Code -/
def lopsX (P : Program) (C : Cfg) (call : CallF) (all : Array Oper) : List Oper → VTr → Heap → Option (VTr × Heap)
  | [], e, H => some (e, H)
  | o :: r, e, H =>
    match wants all e.get o with
    | none => none
    | some false => match putX e o.dst skipA with
      | some e' => lopsX P C call all r e' H
      | none => none
    | some true => match stepA P C call o.dst e.get H o.op with
      | some (a, H') => nf a fun a => match putX e o.dst a with
        | some e' => lopsX P C call all r e' H'
        | none => none
      | none => none
theorem lopsX_ok {P : Program} {C : Cfg} {c1 c2 : CallF} (hc : CLe c1 c2) (all : Array Oper) : ∀ (l : List Oper) (e : VTr) (H : Heap) e' H', lopsX P C c1 all l e H = some (e', H') → lops P C c2 all l e.get H = some (e'.get, H') := by
  intro l
  induction l with
  | nil => intro e H e' H' h; injection h with h; injection h with h1 h2; subst h1 h2; rfl
  | cons o l ih =>
    intro e H e' H' h
    unfold lopsX at h
    unfold lops
    split at h
    · cases h
    · rename_i hw
      rw [hw]
      split at h
      · rename_i e1 he1
        simp only
        rw [← putX_ok he1]
        exact ih _ _ _ _ h
      · cases h
    · rename_i hw
      rw [hw]
      split at h
      · rename_i a H1 hs
        rw [nf_eq] at h
        split at h
        · rename_i e1 he1
          simp only
          rw [stepA_mono hc hs, Option.bind_some, ← putX_ok he1]
          exact ih _ _ _ _ h
        · cases h
      · cases h

def lopsDX (P : Program) (C : Cfg) (call : CallF) (all : Array Oper) : Nat → List Oper → VTr → Heap → Seen → Option (VTr × Heap)
  | _, [], e, H, _ => some (e, H)
  | i, o :: r, e, H, S =>
    match wants all e.get o with
    | none => none
    | some false => match putX e o.dst skipA with
      | some e' => lopsDX P C call all (i + 1) r e' H S
      | none => none
    | some true => match stepA P C call o.dst e.get H o.op with
      | some (a, H') => nf a fun a => match seenX P all i e.get S o.op a H H' with
        | some S' => match putX e o.dst a with
          | some e' => lopsDX P C call all (i + 1) r e' H' S'
          | none => none
        | none => none
      | none => none
theorem lopsDX_ok {P : Program} {C : Cfg} {c1 c2 : CallF} (hc : CLe c1 c2) (all : Array Oper) : ∀ (l : List Oper) (i : Nat) (e : VTr) (H : Heap) (S : Seen) e' H', lopsDX P C c1 all i l e H S = some (e', H') → lopsD P C c2 all i l e.get H S = some (e'.get, H') := by
  intro l
  induction l with
  | nil => intro i e H S e' H' h; injection h with h; injection h with h1 h2; subst h1 h2; rfl
  | cons o l ih =>
    intro i e H S e' H' h
    unfold lopsDX at h
    unfold lopsD
    split at h
    · cases h
    · rename_i hw
      rw [hw]
      split at h
      · rename_i e1 he1
        simp only
        rw [← putX_ok he1]
        exact ih _ _ _ _ _ _ h
      · cases h
    · rename_i hw
      rw [hw]
      split at h
      · rename_i a H1 hs
        rw [nf_eq] at h
        split at h
        · rename_i S1 hS1
          split at h
          · rename_i e1 he1
            simp only
            rw [stepA_mono hc hs, Option.bind_some]
            simp only
            rw [seenX_ok hS1, Option.bind_some, ← putX_ok he1]
            exact ih _ _ _ _ _ _ h
          · cases h
        · cases h
      · cases h

def lcodeX (P : Program) (C : Cfg) (call : CallF) : Nat → Code → VTr → Heap → Option (Ex × VTr × Heap)
  | 0, _, _, _ => none
  | _ + 1, .skip, e, H => some (.normal, e, H)
  | _ + 1, .region _ ops false, e, H => match lopsX P C call ops ops.toList e H with
    | some (e, H) => some (.normal, e, H)
    | none => none
  | _ + 1, .region _ ops true, e, H => match lopsDX P C call ops 0 ops.toList e H {} with
    | some (e, H) => some (.normal, e, H)
    | none => none
  | n + 1, .seq a b, e, H =>
    match lcodeX P C call n a e H with
    | some (.normal, e, H) => lcodeX P C call n b e H
    | r => r
  | n + 1, .cond c a b, e, H =>
    match ev e.get c with
    | .v (.bool true) => lcodeX P C call n a e H
    | .v (.bool false) => lcodeX P C call n b e H
    | _ => none
  | n + 1, .block id a, e, H =>
    match lcodeX P C call n a e H with
    | some (.exit i, e, H) => bif Nat.beq i id then some (.normal, e, H) else some (.exit i, e, H)
    | r => r
  | n + 1, .loop a, e, H =>
    match lcodeX P C call n a e H with
    | some (.normal, e, H) => lcodeX P C call n (.loop a) e H
    | r => r
  | _ + 1, .exit id, e, H => some (.exit id, e, H)
  | _ + 1, .ret, e, H => some (.ret, e, H)
  | _ + 1, _, _, _ => none
theorem lcodeX_ok {P : Program} {C : Cfg} {c1 c2 : CallF} (hc : CLe c1 c2) : ∀ (n : Nat) (c : Code) (e : VTr) (H : Heap) x e' H', lcodeX P C c1 n c e H = some (x, e', H') → lcode P C c2 n c e.get H = some (x, e'.get, H') := by
  intro n
  induction n with
  | zero => intro c e H x e' H' h; cases h
  | succ n ih =>
    intro c e H x e' H' h
    cases c with
    | skip => injection h with h; injection h with h1 h; injection h with h2 h3; subst h1 h2 h3; rfl
    | region id ops d =>
      cases d with
      | false =>
        simp only [lcodeX] at h
        simp only [lcode]
        split at h
        · rename_i e1 H1 h1
          injection h with h; injection h with h2 h; injection h with h3 h4; subst h2 h3 h4
          rw [lopsX_ok hc _ _ _ _ _ _ h1]; rfl
        · cases h
      | true =>
        simp only [lcodeX] at h
        simp only [lcode]
        split at h
        · rename_i e1 H1 h1
          injection h with h; injection h with h2 h; injection h with h3 h4; subst h2 h3 h4
          rw [lopsDX_ok hc _ _ _ _ _ _ _ _ h1]; rfl
        · cases h
    | seq a b =>
      simp only [lcodeX] at h
      simp only [lcode]
      split at h
      · rename_i e1 H1 h1
        rw [ih _ _ _ _ _ _ h1]
        exact ih _ _ _ _ _ _ h
      · rename_i hne
        rw [ih _ _ _ _ _ _ h]
        cases x with
        | normal => exact absurd h (hne _ _)
        | exit i => rfl
        | ret => rfl
    | cond c a b =>
      simp only [lcodeX] at h
      simp only [lcode]
      split at h
      · rename_i hcv
        rw [hcv]
        simp only [if_pos]
        exact ih _ _ _ _ _ _ h
      · rename_i hcv
        rw [hcv]
        simp only [Bool.false_eq_true, if_false]
        exact ih _ _ _ _ _ _ h
      · cases h
    | block id a =>
      simp only [lcodeX] at h
      simp only [lcode]
      split at h
      · rename_i i e1 H1 h1
        rw [ih _ _ _ _ _ _ h1]
        simp only
        cases hb : Nat.beq i id with
        | true =>
          rw [hb, cond_true] at h
          injection h with h; injection h with h2 h; injection h with h3 h4; subst h2 h3 h4
          rw [if_pos (Nat.eq_of_beq_eq_true hb)]
        | false =>
          rw [hb, cond_false] at h
          injection h with h; injection h with h2 h; injection h with h3 h4; subst h2 h3 h4
          rw [if_neg (Nat.ne_of_beq_eq_false hb)]
      · rename_i hne
        rw [ih _ _ _ _ _ _ h]
        cases x with
        | normal => rfl
        | exit i => exact absurd h (hne _ _ _)
        | ret => rfl
    | loop a =>
      simp only [lcodeX] at h
      simp only [lcode]
      split at h
      · rename_i e1 H1 h1
        rw [ih _ _ _ _ _ _ h1]
        exact ih _ _ _ _ _ _ h
      · rename_i hne
        rw [ih _ _ _ _ _ _ h]
        cases x with
        | normal => exact absurd h (hne _ _)
        | exit i => rfl
        | ret => rfl
    | exit id => injection h with h; injection h with h1 h; injection h with h2 h3; subst h1 h2 h3; rfl
    | ret => injection h with h; injection h with h1 h; injection h with h2 h3; subst h1 h2 h3; rfl
    | _ => cases h

def trOf : Nat → List AV → VTr → Option VTr
  | _, [], t => some t
  | i, a :: as_, t => match putX t (some i) a with
    | some t => trOf (i + 1) as_ t
    | none => none
theorem trOf_ok : ∀ (as_ : List AV) (i : Nat) (t t' : VTr), trOf i as_ t = some t' → ∀ k, t'.get k = if i ≤ k ∧ k < i + as_.length then as_.getD (k - i) .un else t.get k := by
  intro as_
  induction as_ with
  | nil => intro i t t' h k; injection h with h; subst h; rw [if_neg (by simp)]
  | cons a as_ ih =>
    intro i t t' h k
    unfold trOf at h
    split at h
    · rename_i t1 h1
      rw [ih _ _ _ h k, putX_ok h1]
      simp only [put, upd, List.length_cons]
      by_cases hk : k = i
      · subst hk
        rw [if_neg (by omega), if_pos rfl, if_pos (by omega)]; simp
      · by_cases hk2 : i + 1 ≤ k ∧ k < i + 1 + as_.length
        · rw [if_pos hk2, if_pos (by omega), show k - i = (k - (i + 1)) + 1 by omega]; simp
        · rw [if_neg hk2, if_neg hk, if_neg (by omega)]
    · cases h
theorem trOf_env {args : List AV} {t : VTr} (h : trOf 0 args .leaf = some t) : t.get = env0 args := by
  funext k
  rw [trOf_ok _ _ _ _ h k]
  unfold env0
  split
  · simp
  · rename_i hk
    rw [List.getD_eq_getElem?_getD, List.getElem?_eq_none (by omega)]
    rfl

def lcallX (P : Program) (C : Cfg) : Nat → CallF
  | 0, _, _, _ => none
  | n + 1, f, args, H =>
    match C.ext f with
    | some g => g args H
    | none =>
      bif C.ok f then
        match P.funcs[f]? with
        | some fn => match fn.body with
          | some c => match trOf 0 args .leaf with
            | some t => match lcodeX P (C.at f) (lcallX P C n) n c t H with
              | some (.exit _, _, _) => none
              | some (_, e, H) => (resultsA P fn e.get H).map fun a => (a, H)
              | none => none
            | none => none
          | none => none
        | none => none
      else none
theorem lcallX_ok {P : Program} {C : Cfg} : ∀ n, CLe (lcallX P C n) (lcall P C n) := by
  intro n
  induction n with
  | zero => intro f a H r h; cases h
  | succ n ih =>
    intro f a H r h
    unfold lcallX at h
    unfold lcall
    split at h
    · rename_i g hg
      rw [hg]; exact h
    · rename_i hg
      rw [hg]
      simp only
      cases hk : C.ok f with
      | false => rw [hk] at h; cases h
      | true =>
        rw [hk, cond_true] at h
        rw [if_pos rfl]
        split at h
        · rename_i fn hf
          rw [hf]
          simp only
          split at h
          · rename_i c hb
            rw [hb]
            simp only
            split at h
            · rename_i t ht
              split at h
              · cases h
              · rename_i x e1 H1 hne hl
                have := lcodeX_ok ih _ _ _ _ _ _ _ hl
                rw [trOf_env ht] at this
                rw [this]
                cases x with
                | exit i => exact absurd rfl (hne i)
                | normal => exact h
                | ret => exact h
              · cases h
            · cases h
          · cases h
        · cases h

/-- A closed call: what it answers once it answers in any memory. -/
theorem closed_ok {P : Program} {C : Cfg} (W0 : World0 P C) {f : FuncId} {n : Nat} {b : Bool} {H' : Heap} (hsig : C.sig f = {}) (h : lcall P C n f [] [] = some (.b b, H')) {H : Heap} : CallOK P {} f [] H (.b b) H := by
  intro F L w vs hS hl hrel hown
  have hc := ((lcall_ok W0 n).ok f [] [] _ H' h).1
  rw [hsig] at hc
  have h0 : St P { get := fun _ _ => none, room := fun _ => 0 } [] NX w [] :=
    { mem := (by intro B i v h; cases h), len := rfl, obj := (by simp), lt := (by simp), nof := (by simp), nox := (by simp), inj := (by simp), xlt := (by intro B h; exact h.elim), room0 := (fun B h => rfl), mob := (by simp) }
  refine (hc _ [] w vs h0 hl (by intro k c hk; simp at hk) ⟨by intro k n hk; simp at hk, by intro j k n m hj; simp at hj⟩).mono ?_
  rintro e w' ⟨v, F', L', rfl, hR⟩
  have hv : v = .bool b := by
    have := hR.rel
    cases this; rfl
  subst hv
  have hb : Go.RowKit.Below w.heap.size w w' := by
    refine ⟨hR.goes.rest.1, hR.goes.rest.2.1, hR.goes.rest.2.2, hR.goes.size, fun k hk => ?_⟩
    refine (hR.goes.keep k hk ?_ (by simp)).1
    rintro ⟨j, n, hj, _⟩
    simp at hj
  obtain ⟨hS1, hg1⟩ := hS.below hb
  exact ⟨_, F, L, rfl, .sc _ rfl, hS1, hg1.weaken (fun _ _ h => h.elim), by simp, by simp⟩

def closedT (b : Bool) (H : Heap) : List AV → Option (AV × Heap)
  | [] => some (.b b, H)
  | _ => none
theorem closedT_ok {P : Program} {C : Cfg} (W0 : World0 P C) {f : FuncId} {n : Nat} {b : Bool} (hsig : C.sig f = {}) (h : ((lcallX P C n f [] []).map fun r => eqA 2 r.1 (.b b)) = some true) {args : List AV} {H : Heap} {r : AV} {H' : Heap} (hr : closedT b H args = some (r, H')) : CallOK P {} f args H r H' := by
  obtain ⟨⟨a, H1⟩, h1, h2⟩ := Option.map_eq_some_iff.1 h
  have := eqA_ok _ _ _ h2
  simp only at this
  subst this
  cases args with
  | nil =>
    injection hr with hr; injection hr with hr1 hr2; subst hr1 hr2
    exact closed_ok W0 hsig (lcallX_ok _ _ _ _ _ h1)
  | cons x xs => cases hr
end Go.Lv
set_option linter.unusedVariables false
set_option linter.unusedSimpArgs false
/-! Bytes held against one another, rows that may be written too. -/
namespace Go.Lv
section
variable {P : Program} {F : Facts} {L : List Nat} {w : World} {H : Heap} {X : Nat → Prop}

def bytesV (H : Heap) : AV → Option ByteArray
  | .sl xs => bytesOfA xs
  | .mr j off len 1 false => (H[j]?).bind fun cs => if 0 < len ∧ off + len ≤ cs.length ∧ isMv cs = false then bytesOfA ((cs.drop off).take len) else none
  | _ => none
theorem bytesV_run (hS : St P F L X w H) {s d e : TypeId} (h1 : P.underlying s = some (.slice e)) (he : P.underlying e = some (.int .u8)) (h2 : P.underlying d = some .string) {a : AV} {v : Value} {str : ByteArray} (ha : Rel F L a v) (h : bytesV H a = some str) :
    (convert s d v).run P w = .ok (.string str) w := by
  unfold bytesV at h
  split at h
  · rename_i xs
    have hc : conv P s d (.sl xs) = some (.s str) := by
      unfold conv
      simp only [h1, h2, he, h, Option.map_some]
    obtain ⟨u, hu, hr⟩ := conv_same_run hS ha hc (fun x => .inl (by simp))
    obtain ⟨e, _⟩ := hr.v_eq
    rw [hu, ← e]
  · rename_i j off len
    obtain ⟨cs, hj, h⟩ := Option.bind_eq_some_iff.1 h
    split at h
    · rename_i hc
      obtain ⟨c1, c2, c3⟩ := hc
      obtain ⟨ns, hns, rfl⟩ := bytesOfA_some h
      cases ha with
      | mr _ _ _ _ cap B _ hB hcap hn0 hroom hxx =>
        have hcne : cs ≠ [] := by intro he; rw [he] at c2; simp at c2; omega
        obtain ⟨arr, ta, m1, m2, m3, m4⟩ := hS.obj j cs B hj hcne c3 hB
        have hxl : ((cs.drop off).take len).length = len := by simp; omega
        have hnl : ns.length = len := by rw [← hxl, hns]; simp
        refine run_convert_bytes_arg w s e h1 he B off len cap ns hnl (fun i hi => ?_) d h2
        have hxi : ((cs.drop off).take len)[i]? = some (AV.v (.int .u8 ns[i])) := by
          rw [hns, List.getElem?_map, List.getElem?_eq_getElem (by omega)]; rfl
        rw [List.getElem?_take, if_pos (by omega), List.getElem?_drop] at hxi
        obtain ⟨e, _⟩ := (m4 _ _ hxi).v_eq
        rw [cell?_eq m1, show ns.getD i 0 = ns[i] by simp [List.getD_eq_getElem?_getD, List.getElem?_eq_getElem (show i < ns.length by omega)], e]
        exact getD_get (by omega)
    · cases h
  · cases h

/-- What the call does, at bytes that are read. -/
def EqualsB (P : Program) (f : FuncId) (s d : TypeId) : Prop :=
  ∀ (w : World) (va vb : Value) (x y : ByteArray), (convert s d va).run P w = .ok (.string x) w → (convert s d vb).run P w = .ok (.string y) w → Calls P f #[va, vb] w fun e w' => e = .returned (.bool (x.toList == y.toList)) ∧ w' = w

def equalT (H : Heap) : List AV → Option (AV × Heap)
  | [a, b] => (bytesV H a).bind fun x => (bytesV H b).map fun y => (.b (x.toList == y.toList), H)
  | _ => none
theorem equalT_ok {f : FuncId} {s d e : TypeId} (h1 : P.underlying s = some (.slice e)) (he : P.underlying e = some (.int .u8)) (h2 : P.underlying d = some .string) (hc : EqualsB P f s d) {args : List AV} {r : AV} {H' : Heap} (h : equalT H args = some (r, H')) : CallOK P {} f args H r H' := by
  intro F L w vs hS hvl hrel hown
  unfold equalT at h
  split at h
  · rename_i a b
    obtain ⟨x, hx, h⟩ := Option.bind_eq_some_iff.1 h
    obtain ⟨y, hy, h⟩ := Option.map_eq_some_iff.1 h
    injection h with h3 h4; subst h3 h4
    match vs, hvl with
    | [va, vb], _ =>
      have ra : Rel F L a va := hrel 0 _ rfl
      have rb : Rel F L b vb := hrel 1 _ rfl
      refine (hc w va vb x y (bytesV_run hS h1 he h2 ra hx) (bytesV_run hS h1 he h2 rb hy)).mono ?_
      rintro e w' ⟨rfl, rfl⟩
      exact ⟨_, F, L, rfl, .sc _ rfl, hS, (Goes.refl _ F L w').weaken (fun _ _ h => h), by simp, by simp⟩
    | [], h => simp at h
    | [_], h => simp at h
    | _ :: _ :: _ :: _, h => simp at h
  · cases h
end
end Go.Lv
