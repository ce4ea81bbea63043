import Derived.Test.YticlhjamafdmfaaLvCl
import Derived.Maps.RangeRun
set_option linter.unusedVariables false
set_option linter.unusedSimpArgs false
/-! Loops over maps, in whatever order. -/
namespace Go.Lv
open Go.RowKit (Below)
section
variable {P : Program} {F : Facts} {L : List Nat} {w : World} {H : Heap} {X : Nat → Prop}

theorem perm_pick : ∀ (l : List MapEntry) (e : MapEntry), (l.map (·.born)).Nodup → e ∈ l → l.Perm (e :: l.filter fun x => x.born != e.born) := by
  intro l
  induction l with
  | nil => intro e _ h; simp at h
  | cons x l ih =>
    intro e hn he
    rw [List.map_cons, List.nodup_cons] at hn
    rcases List.mem_cons.1 he with rfl | he
    · have : (e :: l).filter (fun x => x.born != e.born) = l := by
        rw [List.filter_cons_of_neg (by simp)]
        apply List.filter_eq_self.2
        intro y hy
        simp only [bne_iff_ne, ne_eq]
        intro h
        exact hn.1 (h ▸ List.mem_map_of_mem hy)
      rw [this]
    · have hne : x.born ≠ e.born := fun h => hn.1 (h ▸ List.mem_map_of_mem he)
      rw [List.filter_cons_of_pos (by simpa using hne)]
      exact ((ih e hn.2 he).cons x).trans (List.Perm.swap _ _ _)
theorem left_list (es : Array MapEntry) (seen : Array Nat) : (leftOf es seen).toList = es.toList.filter fun e => !seen.contains e.born := by
  unfold leftOf
  simp
theorem left_perm {es : Array MapEntry} {seen : Array Nat} {e : MapEntry} (hn : (es.toList.map (·.born)).Nodup) (he : e ∈ (leftOf es seen).toList) : (leftOf es seen).toList.Perm (e :: (leftOf es (seen.push e.born)).toList) := by
  have h1 : (leftOf es (seen.push e.born)).toList = (leftOf es seen).toList.filter fun x => x.born != e.born := by
    rw [left_list, left_list, List.filter_filter]
    congr 1
    funext x
    rw [contains_push, Bool.not_or, Bool.and_comm]
    rfl
  rw [h1]
  refine perm_pick _ _ ?_ he
  rw [left_list]
  exact (List.filter_sublist.map _).nodup hn
theorem left_none (es : Array MapEntry) : (leftOf es #[]).toList = es.toList := by
  rw [left_list]
  apply List.filter_eq_self.2
  intro x _
  simp

/-- The same, through a map of entries. -/
theorem perm_lift {α β : Type} {φ : α → β} : ∀ {l : List β} {m : List β}, l.Perm m → ∀ os : List α, os.map φ = m → ∃ os' : List α, os'.Perm os ∧ os'.map φ = l := by
  intro l m h
  induction h with
  | nil => intro os h; exact ⟨os, List.Perm.refl _, h⟩
  | cons x h ih =>
    intro os ho
    cases os with
    | nil => cases ho
    | cons o os =>
      injection ho with h1 h2
      obtain ⟨os', h3, h4⟩ := ih os h2
      exact ⟨o :: os', h3.cons o, by rw [List.map_cons, h1, h4]⟩
  | swap x y l =>
    intro os ho
    match os, ho with
    | a :: b :: os, ho =>
      injection ho with h1 h2
      injection h2 with h2 h3
      exact ⟨b :: a :: os, List.Perm.swap a b os, by simp [h1, h2, h3]⟩
  | trans h1 h2 ih1 ih2 =>
    intro os ho
    obtain ⟨os1, h3, h4⟩ := ih2 os ho
    obtain ⟨os2, h5, h6⟩ := ih1 os1 h4
    exact ⟨os2, h5.trans h3, h6⟩

/-- Nothing was found. -/
theorem find_fresh {d : TypeDesc} {kv : Value} {es : List MapEntry} (hd : d = .string) (hk : MapKept.IsKey d kv) (hs : ∀ e ∈ es, MapKept.IsKey d e.key) (hne : ∀ e ∈ es, e.key ≠ kv) : Instr.findNow d kv es 0 = some none := by
  subst hd
  refine findNow_none es 0 fun e he => ?_
  have h1 := hs e he
  have h2 := hne e he
  generalize e.key = k at *
  cases kv <;> simp [MapKept.IsKey] at hk
  cases k <;> simp [MapKept.IsKey] at h1
  rename_i a b
  simp only [Instr.sameNow]
  congr 1
  cases hb : a == b with
  | false => rfl
  | true => exact absurd (congrArg Value.string ((bytes_beq' _ _).1 hb).symm) h2

/-- A map is known that stands in a new block. -/
theorem St.addMap (hS : St P F L X w H) {B : Nat} {ks vs : List AV} (hBL : B ∉ L) (hBX : ¬ X B) (hF : ∀ i, F B i = none) (hlt : B < w.heap.size) (hm : MapAt F L w B ks vs) : St P F (L ++ [B]) X w (H ++ [[.mv ks vs]]) := by
  have hpre : ∀ (j B' : Nat), L[j]? = some B' → (L ++ [B])[j]? = some B' := by
    intro j B' h
    rw [List.getElem?_append_left (List.getElem?_eq_some_iff.1 h).1]
    exact h
  have hmono : ∀ {a v}, Rel F L a v → Rel F (L ++ [B]) a v := fun h => h.mono (fun _ _ _ h => h) (fun _ => Nat.le_refl _) hpre
  have hmap : ∀ {B' ks vs}, MapAt F L w B' ks vs → MapAt F (L ++ [B]) w B' ks vs := by
    rintro B' ks vs ⟨es, fs, clk, h1, h2, h3, h4, h5, h6, h7⟩
    exact ⟨es, fs, clk, h1, h2, h3, h4, h5, fun i k hk => by obtain ⟨e, he, hr⟩ := h6 i k hk; exact ⟨e, he, hmono hr⟩, fun i v hv => by obtain ⟨e, he, hr⟩ := h7 i v hv; exact ⟨e, he, hmono hr⟩⟩
  have old : ∀ (j : Nat) cs' B', (H ++ [[.mv ks vs]])[j]? = some cs' → (L ++ [B])[j]? = some B' → (H[j]? = some cs' ∧ L[j]? = some B') ∨ (j = L.length ∧ cs' = [.mv ks vs] ∧ B' = B) := by
    intro j cs' B' hj hB
    rcases Nat.lt_or_ge j L.length with hjl | hjl
    · rw [List.getElem?_append_left hjl] at hB
      rw [List.getElem?_append_left (hS.len ▸ hjl)] at hj
      exact .inl ⟨hj, hB⟩
    · rw [List.getElem?_append_right hjl] at hB
      rw [List.getElem?_append_right (hS.len ▸ hjl)] at hj
      have h1 := (List.getElem?_eq_some_iff.1 hB).1
      simp at h1
      have h0 : j - L.length = 0 := by omega
      rw [h0] at hB
      rw [← hS.len, h0] at hj
      injection hB with hB; injection hj with hj
      exact .inr ⟨by omega, hj.symm, hB.symm⟩
  refine { mem := hS.mem, len := by simp [hS.len], obj := fun j cs B' hj hne hmv hB => ?_, lt := fun b hb => ?_, nof := fun j cs B' hj hne hB i hi => ?_, nox := fun b hb => ?_, inj := fun i j cs ds b hi hn1 hj hn2 hbi hbj => ?_, xlt := hS.xlt, room0 := hS.room0, mob := fun j ks' vs' b hj hb => ?_ }
  · rcases old j cs B' hj hB with ⟨h1, h2⟩ | ⟨h1, rfl, rfl⟩
    · obtain ⟨arr', t', h3, h4, h5, h6⟩ := hS.obj j cs B' h1 hne hmv h2
      exact ⟨arr', t', h3, h4, h5, fun k c hk => hmono (h6 k c hk)⟩
    · cases hmv
  · rcases List.mem_append.1 hb with h | h
    · exact hS.lt b h
    · simp at h; subst h; exact hlt
  · rcases old j cs B' hj hB with ⟨h1, h2⟩ | ⟨h1, rfl, rfl⟩
    · exact hS.nof j cs B' h1 hne h2 i hi
    · exact hF i
  · rcases List.mem_append.1 hb with h | h
    · exact hS.nox b h
    · simp at h; subst h; exact hBX
  · rcases old i cs b hi hbi with ⟨h1, h2⟩ | ⟨h1, h1', rfl⟩ <;> rcases old j ds b hj hbj with ⟨h3, h4⟩ | ⟨h3, h3', h3''⟩
    · exact hS.inj i j cs ds b h1 hn1 h3 hn2 h2 h4
    · subst h3''; exact absurd (mem_of_get h2) hBL
    · exact absurd (mem_of_get h4) hBL
    · omega
  · rcases old j _ b hj hb with ⟨h1, h2⟩ | ⟨h1, h2, rfl⟩
    · exact hmap (hS.mob j ks' vs' b h1 h2)
    · injection h2 with h2 _; injection h2 with h2 h3; subst h2 h3
      exact hmap hm
end
end Go.Lv
