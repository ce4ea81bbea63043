/- A value semantics of the loaded code, its soundness, and walks through functions over it. -/
import Derived.Test.YtbfcbjmoijiffaaGreatLvAll9
import Derived.Maps.RangeRun
set_option linter.unusedVariables false
set_option linter.unusedSimpArgs false
/-! Loops over maps, in whatever order. -/
namespace Go.Lv
open Go.RowKit (Below)
section
variable {P : Program} {F : Facts} {L : List Nat} {w : World} {H : Heap} {X : Nat → Prop}

theorem perm_pick : ∀ (l : List MapEntry) (e : MapEntry), (l.map (·.born)).Nodup → e ∈ l → l.Perm (e :: l.filter fun x => x.born != e.born) := by
  intro l
  induction l with
  | nil => intro e _ h; simp at h
  | cons x l ih =>
    intro e hn he
    rw [List.map_cons, List.nodup_cons] at hn
    rcases List.mem_cons.1 he with rfl | he
    · have : (e :: l).filter (fun x => x.born != e.born) = l := by
        rw [List.filter_cons_of_neg (by simp)]
        apply List.filter_eq_self.2
        intro y hy
        simp only [bne_iff_ne, ne_eq]
        intro h
        exact hn.1 (h ▸ List.mem_map_of_mem hy)
      rw [this]
    · have hne : x.born ≠ e.born := fun h => hn.1 (h ▸ List.mem_map_of_mem he)
      rw [List.filter_cons_of_pos (by simpa using hne)]
      exact ((ih e hn.2 he).cons x).trans (List.Perm.swap _ _ _)
theorem left_list (es : Array MapEntry) (seen : Array Nat) : (leftOf es seen).toList = es.toList.filter fun e => !seen.contains e.born := by
  unfold leftOf
  simp
theorem left_perm {es : Array MapEntry} {seen : Array Nat} {e : MapEntry} (hn : (es.toList.map (·.born)).Nodup) (he : e ∈ (leftOf es seen).toList) : (leftOf es seen).toList.Perm (e :: (leftOf es (seen.push e.born)).toList) := by
  have h1 : (leftOf es (seen.push e.born)).toList = (leftOf es seen).toList.filter fun x => x.born != e.born := by
    rw [left_list, left_list, List.filter_filter]
    congr 1
    funext x
    rw [contains_push, Bool.not_or, Bool.and_comm]
    rfl
  rw [h1]
  refine perm_pick _ _ ?_ he
  rw [left_list]
  exact (List.filter_sublist.map _).nodup hn
theorem left_none (es : Array MapEntry) : (leftOf es #[]).toList = es.toList := by
  rw [left_list]
  apply List.filter_eq_self.2
  intro x _
  simp

/-- The same, through a map of entries. -/
theorem perm_lift {α β : Type} {φ : α → β} : ∀ {l : List β} {m : List β}, l.Perm m → ∀ os : List α, os.map φ = m → ∃ os' : List α, os'.Perm os ∧ os'.map φ = l := by
  intro l m h
  induction h with
  | nil => intro os h; exact ⟨os, List.Perm.refl _, h⟩
  | cons x h ih =>
    intro os ho
    cases os with
    | nil => cases ho
    | cons o os =>
      injection ho with h1 h2
      obtain ⟨os', h3, h4⟩ := ih os h2
      exact ⟨o :: os', h3.cons o, by rw [List.map_cons, h1, h4]⟩
  | swap x y l =>
    intro os ho
    match os, ho with
    | a :: b :: os, ho =>
      injection ho with h1 h2
      injection h2 with h2 h3
      exact ⟨b :: a :: os, List.Perm.swap a b os, by simp [h1, h2, h3]⟩
  | trans h1 h2 ih1 ih2 =>
    intro os ho
    obtain ⟨os1, h3, h4⟩ := ih2 os ho
    obtain ⟨os2, h5, h6⟩ := ih1 os1 h4
    exact ⟨os2, h5.trans h3, h6⟩

/-- Nothing was found. -/
theorem find_fresh {d : TypeDesc} {kv : Value} {es : List MapEntry} (hd : d = .string) (hk : MapKept.IsKey d kv) (hs : ∀ e ∈ es, MapKept.IsKey d e.key) (hne : ∀ e ∈ es, e.key ≠ kv) : Instr.findNow d kv es 0 = some none := by
  subst hd
  refine findNow_none es 0 fun e he => ?_
  have h1 := hs e he
  have h2 := hne e he
  generalize e.key = k at *
  cases kv <;> simp [MapKept.IsKey] at hk
  cases k <;> simp [MapKept.IsKey] at h1
  rename_i a b
  simp only [Instr.sameNow]
  congr 1
  cases hb : a == b with
  | false => rfl
  | true => exact absurd (congrArg Value.string ((bytes_beq' _ _).1 hb).symm) h2

/-- A map is known that stands in a new block. -/
theorem St.addMap (hS : St P F L X w H) {B : Nat} {ks vs : List AV} (hBL : B ∉ L) (hBX : ¬ X B) (hF : ∀ i, F B i = none) (hlt : B < w.heap.size) (hm : MapAt F L w B ks vs) : St P F (L ++ [B]) X w (H ++ [[.mv ks vs]]) := by
  have hpre : ∀ (j B' : Nat), L[j]? = some B' → (L ++ [B])[j]? = some B' := by
    intro j B' h
    rw [List.getElem?_append_left (List.getElem?_eq_some_iff.1 h).1]
    exact h
  have hmono : ∀ {a v}, Rel F L a v → Rel F (L ++ [B]) a v := fun h => h.mono (fun _ _ _ h => h) (fun _ => Nat.le_refl _) hpre
  have hmap : ∀ {B' ks vs}, MapAt F L w B' ks vs → MapAt F (L ++ [B]) w B' ks vs := by
    rintro B' ks vs ⟨es, fs, clk, h1, h2, h3, h4, h5, h6, h7⟩
    exact ⟨es, fs, clk, h1, h2, h3, h4, h5, fun i k hk => by obtain ⟨e, he, hr⟩ := h6 i k hk; exact ⟨e, he, hmono hr⟩, fun i v hv => by obtain ⟨e, he, hr⟩ := h7 i v hv; exact ⟨e, he, hmono hr⟩⟩
  have old : ∀ (j : Nat) cs' B', (H ++ [[.mv ks vs]])[j]? = some cs' → (L ++ [B])[j]? = some B' → (H[j]? = some cs' ∧ L[j]? = some B') ∨ (j = L.length ∧ cs' = [.mv ks vs] ∧ B' = B) := by
    intro j cs' B' hj hB
    rcases Nat.lt_or_ge j L.length with hjl | hjl
    · rw [List.getElem?_append_left hjl] at hB
      rw [List.getElem?_append_left (hS.len ▸ hjl)] at hj
      exact .inl ⟨hj, hB⟩
    · rw [List.getElem?_append_right hjl] at hB
      rw [List.getElem?_append_right (hS.len ▸ hjl)] at hj
      have h1 := (List.getElem?_eq_some_iff.1 hB).1
      simp at h1
      have h0 : j - L.length = 0 := by omega
      rw [h0] at hB
      rw [← hS.len, h0] at hj
      injection hB with hB; injection hj with hj
      exact .inr ⟨by omega, hj.symm, hB.symm⟩
  refine { mem := hS.mem, len := by simp [hS.len], obj := fun j cs B' hj hne hmv hB => ?_, lt := fun b hb => ?_, nof := fun j cs B' hj hne hB i hi => ?_, nox := fun b hb => ?_, inj := fun i j cs ds b hi hn1 hj hn2 hbi hbj => ?_, xlt := hS.xlt, room0 := hS.room0, mob := fun j ks' vs' b hj hb => ?_, rm := (fun j ds B' hj hpl hB => (old j ds B' hj hB).elim (fun h => hS.rm j ds B' h.1 hpl h.2) (fun h => by rw [h.2.1] at hpl; cases hpl)) }
  · rcases old j cs B' hj hB with ⟨h1, h2⟩ | ⟨h1, rfl, rfl⟩
    · obtain ⟨arr', t', h3, h4, h5, h6⟩ := hS.obj j cs B' h1 hne hmv h2
      exact ⟨arr', t', h3, h4, h5, fun k c hk => hmono (h6 k c hk)⟩
    · cases hmv
  · rcases List.mem_append.1 hb with h | h
    · exact hS.lt b h
    · simp at h; subst h; exact hlt
  · rcases old j cs B' hj hB with ⟨h1, h2⟩ | ⟨h1, rfl, rfl⟩
    · exact hS.nof j cs B' h1 hne h2 i hi
    · exact hF i
  · rcases List.mem_append.1 hb with h | h
    · exact hS.nox b h
    · simp at h; subst h; exact hBX
  · rcases old i cs b hi hbi with ⟨h1, h2⟩ | ⟨h1, h1', rfl⟩ <;> rcases old j ds b hj hbj with ⟨h3, h4⟩ | ⟨h3, h3', h3''⟩
    · exact hS.inj i j cs ds b h1 hn1 h3 hn2 h2 h4
    · subst h3''; exact absurd (mem_of_get h2) hBL
    · exact absurd (mem_of_get h4) hBL
    · omega
  · rcases old j _ b hj hb with ⟨h1, h2⟩ | ⟨h1, h2, rfl⟩
    · exact hmap (hS.mob j ks' vs' b h1 h2)
    · injection h2 with h2 _; injection h2 with h2 h3; subst h2 h3
      exact hmap hm
end
end Go.Lv
set_option linter.unusedVariables false
set_option linter.unusedSimpArgs false
/-! Maps copied, and the lengths of what they hold added up. -/
namespace Go.Lv
open Go.RowKit (Below)
section
variable {P : Program} {F : Facts} {L : List Nat} {w : World} {H : Heap}

def strKey : AV → Bool
  | .v (.string _) => true
  | _ => false
def kvOf (e : MapEntry) : Value × Value := (e.key, e.val)

/-- What a copy's loop comes to. -/
def CopiesMap (P : Program) (f : FuncId) : Prop :=
  ∀ (w : World) (B : Nat) (es : Array MapEntry) (clk : Nat), w.heap[B]? = some (.map es clk) → MapKept.Stamped es clk → (∀ x ∈ es.toList, MapKept.IsKey .string x.key) →
    Calls P f #[.map (some B)] w fun e w' => e = .returned (.map (some w.heap.size)) ∧ ∃ os oclk, w'.heap[w.heap.size]? = some (.map os oclk) ∧ MapKept.Stamped os oclk ∧ (es.toList.map kvOf).Perm (os.toList.map kvOf) ∧ Below w.heap.size w w'

def copiedT (H : Heap) : List AV → Option (AV × Heap)
  | [.mp j] => (mapOf H j).bind fun kv => if kv.1.all strKey = true then some (.mp H.length, H ++ [[.mv kv.1 kv.2]]) else none
  | _ => none

theorem keys_str {ks : List AV} {es fs : List MapEntry} (hpm : fs.Perm es) (hl : ks.length = fs.length) (h4 : ∀ (i : Nat) k, ks[i]? = some k → ∃ e, fs[i]? = some e ∧ Rel F L k e.key) (hk : ks.all strKey = true) : ∀ x ∈ es, MapKept.IsKey .string x.key := by
  intro x hx
  have hx' := hpm.mem_iff.2 hx
  obtain ⟨i, hi⟩ := List.mem_iff_getElem?.1 hx'
  have hil := (List.getElem?_eq_some_iff.1 hi).1
  have hki : ks[i]? = some ks[i] := List.getElem?_eq_getElem (by omega)
  obtain ⟨e, he, hr⟩ := h4 i _ hki
  rw [hi] at he; injection he with he; subst he
  have := List.all_eq_true.1 hk _ (List.mem_of_getElem? hki)
  generalize ks[i] = k at *
  unfold strKey at this
  split at this
  · obtain ⟨e, _⟩ := hr.v_eq
    rw [← e]; trivial
  · cases this

theorem copiedT_ok {f : FuncId} (hc : CopiesMap P f) {args : List AV} {r : AV} {H' : Heap} (h : copiedT H args = some (r, H')) : CallOK P {} f args H r H' := by
  intro F L w vs hS hvl hrel hown hglob
  unfold copiedT at h
  split at h
  · rename_i j
    obtain ⟨⟨ks, us⟩, hmo, h⟩ := Option.bind_eq_some_iff.1 h
    simp only at h
    split at h
    · rename_i hks
      injection h with h; injection h with h1 h2; subst h1 h2
      match vs, hvl with
      | [v], _ =>
        have r0 : Rel F L (.mp j) v := hrel 0 _ rfl
        cases r0 with
        | mp _ B hB =>
          obtain ⟨es, fs, clk, h1, hst, hpm, h2, h3, h4, h5⟩ := hS.mob j ks us B (mapOf_some hmo) hB
          refine (hc w B es.toArray clk h1 hst (by simpa using keys_str hpm h2 h4 hks)).mono ?_
          rintro e w' ⟨rfl, os, oclk, ho, hso, hpo, hb⟩
          obtain ⟨hS1, hg1⟩ := hS.below hb
          have hpf : (fs.map kvOf).Perm (os.toList.map kvOf) := (hpm.map kvOf).trans (by simpa using hpo)
          obtain ⟨os', hp1, hp2⟩ := perm_lift hpf os.toList rfl
          have hlen : os'.length = fs.length := by have := congrArg List.length hp2; simpa using this
          have hget : ∀ (i : Nat) (e : MapEntry), fs[i]? = some e → ∃ e', os'[i]? = some e' ∧ e'.key = e.key ∧ e'.val = e.val := by
            intro i e he
            have h1 : (os'.map kvOf)[i]? = (fs.map kvOf)[i]? := by rw [hp2]
            rw [List.getElem?_map, List.getElem?_map, he] at h1
            obtain ⟨e', h2, h3⟩ := Option.map_eq_some_iff.1 h1
            injection h3 with h3 h4
            exact ⟨e', h2, h3, h4⟩
          have hm : MapAt F L w' w.heap.size ks us := by
            refine ⟨os.toList, os', oclk, by simpa using ho, by simpa using hso, hp1, by omega, by omega, fun i k hk => ?_, fun i v hv => ?_⟩
            · obtain ⟨e, he, hr⟩ := h4 i k hk
              obtain ⟨e', h1, h2, h3⟩ := hget i e he
              exact ⟨e', h1, by rw [h2]; exact hr⟩
            · obtain ⟨e, he, hr⟩ := h5 i v hv
              obtain ⟨e', h1, h2, h3⟩ := hget i e he
              exact ⟨e', h1, by rw [h3]; exact hr⟩
          have hbL : w.heap.size ∉ L := fun hm => by have := hS.lt _ hm; omega
          have hlt : w.heap.size < w'.heap.size := (Array.getElem?_eq_some_iff.1 ho).1
          have hS2 := hS1.addMap (B := w.heap.size) hbL (by intro h; exact h.elim) (fun i => by
            cases hf : F w.heap.size i with
            | none => rfl
            | some v => have := hS.ltF hf; omega) hlt hm
          refine ⟨_, F, _, rfl, ?_, hS2, ⟨hg1.size, fun b hb hg hL => hg1.keep b hb (fun h => h.elim) hL, hg1.mono, fun j' b hj => ?_, fun b hb => ?_, hg1.rest, hg1.room⟩, by simp, by simp⟩
          · refine .mp _ _ ?_
            rw [← hS.len, List.getElem?_append_right (Nat.le_refl _), Nat.sub_self]; rfl
          · rw [List.getElem?_append_left (List.getElem?_eq_some_iff.1 hj).1]; exact hj
          · rcases List.mem_append.1 hb with h | h
            · exact .inl h
            · simp at h; subst h; exact .inr (Nat.le_refl _)
      | [], h => simp at h
      | _ :: _ :: _, h => simp at h
    · cases h
  · cases h

/-! ### Lengths added up -/
def lenV : Value → Int
  | .slice _ n _ => n
  | _ => 0
def isSl : Value → Bool
  | .slice .. => true
  | _ => false
def lenA : AV → Option Nat
  | .sl xs => some xs.length
  | .v x => if isNilV x = true then some 0 else none
  | _ => none
def lensA : List AV → Option Nat
  | [] => some 0
  | a :: as_ => (lenA a).bind fun n => (lensA as_).map fun m => n + m

def SumsMap (P : Program) (f : FuncId) : Prop :=
  ∀ (w : World) (B B' : Nat) (arr : Array Value) (t : TypeId) (fr : Nat × Nat) (es : Array MapEntry) (clk : Nat), w.heap[B]? = some (.cells arr t fr) → arr[1]? = some (.map (some B')) → w.heap[B']? = some (.map es clk) → MapKept.Stamped es clk → (∀ x ∈ es.toList, isSl x.val = true) →
    (es.toList.map fun e => lenV e.val).sum ≤ 4611686018427387904 →
    Calls P f #[.pointer (some ⟨B, 0, none⟩)] w fun e w' => e = .returned (.int .i64 (es.toList.map fun e => lenV e.val).sum) ∧ Below w.heap.size w w'

def usedT (H : Heap) : List AV → Option (AV × Heap)
  | [.ptr j 0] => (H[j]?).bind fun cs => match cs with
    | _ :: .mp a :: _ => (mapOf H a).bind fun kv => (lensA kv.2).bind fun n => if n ≤ 4611686018427387904 then some (.i n, H) else none
    | _ => none
  | _ => none

theorem lenA_rel {a : AV} {v : Value} {n : Nat} (h : lenA a = some n) (hr : Rel F L a v) : isSl v = true ∧ lenV v = n := by
  unfold lenA at h
  split at h
  · rename_i xs
    injection h with h; subst h
    cases hr with
    | sl0 a cap h => exact ⟨rfl, rfl⟩
    | sl xs B o len cap sz vals hl h0 hc hs hn hf hr => exact ⟨rfl, by simp [lenV, hl]⟩
  · rename_i x
    split at h
    · rename_i hx
      injection h with h; subst h
      have := isNilV_spec hx
      subst this
      obtain ⟨e, _⟩ := hr.v_eq
      rw [← e]; exact ⟨rfl, rfl⟩
    · cases h
  · cases h
theorem lensA_rel : ∀ {us : List AV} {fs : List MapEntry} {n : Nat}, lensA us = some n → us.length = fs.length → (∀ (i : Nat) v, us[i]? = some v → ∃ e, fs[i]? = some e ∧ Rel F L v e.val) → (∀ x ∈ fs, isSl x.val = true) ∧ (fs.map fun e => lenV e.val).sum = n := by
  intro us
  induction us with
  | nil =>
    intro fs n h hl hr
    injection h with h; subst h
    have : fs = [] := List.eq_nil_of_length_eq_zero (by simpa using hl.symm)
    subst this
    exact ⟨by simp, rfl⟩
  | cons u us ih =>
    intro fs n h hl hr
    cases fs with
    | nil => simp at hl
    | cons e fs =>
      unfold lensA at h
      obtain ⟨k, hk, h⟩ := Option.bind_eq_some_iff.1 h
      obtain ⟨m, hm, rfl⟩ := Option.map_eq_some_iff.1 h
      obtain ⟨e', he', hre⟩ := hr 0 u rfl
      injection he' with he'; subst he'
      obtain ⟨h1, h2⟩ := lenA_rel hk hre
      obtain ⟨h3, h4⟩ := ih hm (by simpa using hl) (fun i v hv => hr (i + 1) v hv)
      refine ⟨fun x hx => ?_, ?_⟩
      · rcases List.mem_cons.1 hx with rfl | hx
        · exact h1
        · exact h3 x hx
      · rw [List.map_cons, List.sum_cons, h2, h4]; omega
theorem sum_perm {l m : List Int} (h : l.Perm m) : l.sum = m.sum := by
  induction h with
  | nil => rfl
  | cons x h ih => rw [List.sum_cons, List.sum_cons, ih]
  | swap x y l => simp only [List.sum_cons]; omega
  | trans h1 h2 ih1 ih2 => exact ih1.trans ih2

theorem usedT_ok {f : FuncId} (hc : SumsMap P f) {args : List AV} {r : AV} {H' : Heap} (h : usedT H args = some (r, H')) : CallOK P {} f args H r H' := by
  intro F L w vs hS hvl hrel hown hglob
  unfold usedT at h
  split at h
  · rename_i j
    obtain ⟨cs, hj, h⟩ := Option.bind_eq_some_iff.1 h
    split at h
    · rename_i c0 a rest
      obtain ⟨⟨ks, us⟩, hmo, h⟩ := Option.bind_eq_some_iff.1 h
      obtain ⟨n, hn, h⟩ := Option.bind_eq_some_iff.1 h
      split at h
      · rename_i hle
        injection h with h; injection h with h1 h2; subst h1 h2
        match vs, hvl with
        | [v], _ =>
          have r0 : Rel F L (.ptr j 0) v := hrel 0 _ rfl
          cases r0 with
          | ptr _ _ B hB =>
            obtain ⟨arr, t, m1, m2, m3, m4⟩ := hS.obj j _ B hj (by simp) (by simp [isMv]) hB
            have r1 := m4 1 _ rfl
            cases hv1 : arr.getD 1 undef with
            | map b =>
              rw [hv1] at r1
              cases r1 with
              | mp _ B' hB' =>
                obtain ⟨es, fs, clk, h1, hst, hpm, h2, h3, h4, h5⟩ := hS.mob a ks us B' (mapOf_some hmo) hB'
                obtain ⟨k1, k2⟩ := lensA_rel hn h3 h5
                have hsum : (es.map fun e => lenV e.val).sum = n := by rw [← k2]; exact (sum_perm (hpm.map _)).symm
                have harr : arr.toArray[1]? = some (.map (some B')) := by
                  rw [List.getElem?_toArray]
                  have hl : 1 < arr.length := by simp at m2; omega
                  rw [List.getElem?_eq_getElem hl]
                  rw [List.getD_eq_getElem?_getD, List.getElem?_eq_getElem hl] at hv1
                  exact congrArg some hv1
                refine (hc w B B' arr.toArray t m1.choose es.toArray clk m1.choose_spec.1 harr h1 hst (fun x hx => k1 x (hpm.mem_iff.2 (by simpa using hx))) (by simp only; rw [hsum]; omega)).mono ?_
                rintro e w' ⟨rfl, hb⟩
                obtain ⟨hS1, hg1⟩ := hS.below hb
                refine ⟨_, F, L, rfl, ?_, hS1, hg1.weaken (fun _ _ h => h.elim), by simp, by simp⟩
                simp only [hsum]
                exact .sc _ rfl
            | _ => rw [hv1] at r1; cases r1
        | [], h => simp at h
        | _ :: _ :: _, h => simp at h
      · cases h
    · cases h
  · cases h
end
end Go.Lv
