/- A value semantics of the loaded code, its soundness, and walks through functions over it. -/
import Derived.Test.YtbfcbjmoijiffaaGreatLvAll12
import Derived.Test.YtbfcbjmoijiffaaGreatDkSpec
set_option linter.unusedVariables false
set_option linter.unusedSimpArgs false
/-! Maps from texts to bytes, in steps. -/
namespace Go.Lv
open Dk (Files Bs)
section
variable {P : Program} {H : Heap}

def keysA (f : Files) : List AV := f.map fun p => AV.str p.1
def valsA (f : Files) : List AV := f.map fun p => AV.bytes p.2
def filesA (f : Files) : List AV := [.mv (keysA f) (valsA f)]

def posF : Files → Bs → Option Nat
  | [], _ => none
  | (k, _) :: r, n => if n = k then some 0 else (posF r n).map (· + 1)

theorem keyEq_str (a b : Bs) : keyEq (AV.str a) (AV.str b) = some (decide (a = b)) := by
  simp only [keyEq, AV.str]
  congr 1
  apply Bool.eq_iff_iff.2
  rw [bytes_beq', decide_eq_true_iff]
  constructor
  · intro h; injection h with h; injection h
  · intro h; rw [h]
theorem findK_files (n : Bs) : ∀ (f : Files) (i : Nat), findK (AV.str n) (keysA f) i = some ((posF f n).map (· + i)) := by
  intro f
  induction f with
  | nil => intro i; rfl
  | cons p f ih =>
    intro i
    obtain ⟨k, v⟩ := p
    show findK (AV.str n) (AV.str k :: keysA f) i = _
    unfold findK posF
    rw [keyEq_str]
    by_cases h : n = k
    · rw [decide_eq_true h, if_pos h]
      simp only
      rw [if_pos]
      · simp
      · apply List.all_eq_true.2
        intro a ha
        obtain ⟨q, _, rfl⟩ := List.mem_map.1 ha
        rw [keyEq_str]; rfl
    · rw [decide_eq_false h, if_neg h]
      simp only
      rw [ih (i + 1)]
      cases posF f n with
      | none => rfl
      | some x => simp; omega
theorem get_pos (f : Files) (n : Bs) : Dk.get f n = (posF f n).bind fun i => (f[i]?).map (·.2) := by
  induction f with
  | nil => rfl
  | cons p f ih =>
    obtain ⟨k, v⟩ := p
    unfold Dk.get posF
    by_cases h : n = k
    · rw [if_pos h, if_pos h]; rfl
    · rw [if_neg h, if_neg h, ih]
      cases posF f n <;> rfl
theorem pos_lt {f : Files} {n : Bs} {i : Nat} : posF f n = some i → i < f.length := by
  induction f generalizing i with
  | nil => intro h; cases h
  | cons p f ih =>
    obtain ⟨k, v⟩ := p
    unfold posF
    intro h
    split at h
    · injection h with h; subst h; simp
    · obtain ⟨x, hx, rfl⟩ := Option.map_eq_some_iff.1 h
      have := ih hx
      simp; omega
theorem set_some (b : Bs) {f : Files} {n : Bs} {i : Nat} : posF f n = some i → keysA (Dk.set f n b) = keysA f ∧ valsA (Dk.set f n b) = (valsA f).set i (AV.bytes b) := by
  induction f generalizing i with
  | nil => intro h; cases h
  | cons p f ih =>
    obtain ⟨k, v⟩ := p
    unfold posF Dk.set
    intro h
    by_cases hk : n = k
    · rw [if_pos hk] at h ⊢
      injection h with h; subst h
      exact ⟨rfl, rfl⟩
    · rw [if_neg hk] at h ⊢
      obtain ⟨x, hx, rfl⟩ := Option.map_eq_some_iff.1 h
      obtain ⟨h1, h2⟩ := ih hx
      refine ⟨?_, ?_⟩
      · show AV.str k :: keysA (Dk.set f n b) = _; rw [h1]; rfl
      · show AV.bytes v :: valsA (Dk.set f n b) = _; rw [h2]; rfl
theorem set_none (b : Bs) {f : Files} {n : Bs} : posF f n = none → keysA (Dk.set f n b) = keysA f ++ [AV.str n] ∧ valsA (Dk.set f n b) = valsA f ++ [AV.bytes b] := by
  induction f with
  | nil => intro h; exact ⟨rfl, rfl⟩
  | cons p f ih =>
    obtain ⟨k, v⟩ := p
    unfold posF Dk.set
    intro h
    by_cases hk : n = k
    · rw [if_pos hk] at h; cases h
    · rw [if_neg hk] at h ⊢
      obtain ⟨h1, h2⟩ := ih (by simpa using h)
      refine ⟨?_, ?_⟩
      · show AV.str k :: keysA (Dk.set f n b) = _; rw [h1]; rfl
      · show AV.bytes v :: valsA (Dk.set f n b) = _; rw [h2]; rfl
theorem del_some {f : Files} {n : Bs} {i : Nat} : posF f n = some i → keysA (Dk.del f n) = (keysA f).eraseIdx i ∧ valsA (Dk.del f n) = (valsA f).eraseIdx i := by
  induction f generalizing i with
  | nil => intro h; cases h
  | cons p f ih =>
    obtain ⟨k, v⟩ := p
    unfold posF Dk.del
    intro h
    by_cases hk : n = k
    · rw [if_pos hk] at h ⊢
      injection h with h; subst h
      exact ⟨rfl, rfl⟩
    · rw [if_neg hk] at h ⊢
      obtain ⟨x, hx, rfl⟩ := Option.map_eq_some_iff.1 h
      obtain ⟨h1, h2⟩ := ih hx
      refine ⟨?_, ?_⟩
      · show AV.str k :: keysA (Dk.del f n) = _; rw [h1]; rfl
      · show AV.bytes v :: valsA (Dk.del f n) = _; rw [h2]; rfl
theorem del_none {f : Files} {n : Bs} : posF f n = none → Dk.del f n = f := by
  induction f with
  | nil => intro h; rfl
  | cons p f ih =>
    obtain ⟨k, v⟩ := p
    unfold posF Dk.del
    intro h
    by_cases hk : n = k
    · rw [if_pos hk] at h; cases h
    · rw [if_neg hk] at h ⊢
      rw [ih (by simpa using h)]
theorem mapOf_files {j : Nat} {f : Files} (hj : H[j]? = some (filesA f)) : mapOf H j = some (keysA f, valsA f) := by
  unfold mapOf; rw [hj]; rfl
theorem vals_get (f : Files) (i : Nat) : (valsA f)[i]? = (f[i]?).map fun p => AV.bytes p.2 := by simp [valsA]

section
variable {t kt et : TypeId} {j : Nat} {f : Files} {n b : Bs}
theorem keyKind_str [hk : UndIs P kt .string] : keyKind P kt (AV.str n) = true := by
  unfold keyKind; rw [hk.h]; rfl
theorem mapTy_is [ht : UndIs P t (.map kt et)] : mapTy P t = some (kt, et) := by unfold mapTy; rw [ht.h]
theorem lookup_files [ht : UndIs P t (.map kt et)] [hk : UndIs P kt .string] (hz : zeroV P et = some (.sl [])) (hj : H[j]? = some (filesA f)) :
    lookupA P H t (.mp j) (AV.str n) false = some (AV.bytes (Dk.data f n)) := by
  unfold lookupA
  rw [mapTy_is (kt := kt) (et := et)]
  simp only [Option.bind_some, keyKind_str, if_true, mapOf_files hj, findK_files, Dk.data, get_pos]
  cases hp : posF f n with
  | none => simp [hz]; rfl
  | some i =>
    have hl := pos_lt hp
    simp [vals_get, List.getElem?_eq_getElem hl]
theorem lookup2_files [ht : UndIs P t (.map kt et)] [hk : UndIs P kt .string] (hz : zeroV P et = some (.sl [])) (hj : H[j]? = some (filesA f)) :
    lookupA P H t (.mp j) (AV.str n) true = some (.tup [AV.bytes (Dk.data f n), .b (Dk.has f n)]) := by
  unfold lookupA
  rw [mapTy_is (kt := kt) (et := et)]
  simp only [Option.bind_some, keyKind_str, if_true, mapOf_files hj, findK_files, Dk.data, Dk.has, get_pos]
  cases hp : posF f n with
  | none => simp [hz]; rfl
  | some i =>
    have hl := pos_lt hp
    simp [vals_get, List.getElem?_eq_getElem hl]
theorem update_files [ht : UndIs P t (.map kt et)] [hk : UndIs P kt .string] (hj : H[j]? = some (filesA f)) :
    updateA P H t (.mp j) (AV.str n) (AV.bytes b) = some (H.set j (filesA (Dk.set f n b))) := by
  unfold updateA
  rw [mapTy_is (kt := kt) (et := et)]
  simp only [Option.bind_some, keyKind_str]
  rw [if_pos ⟨trivial, rfl⟩]
  simp only [mapOf_files hj, Option.bind_some, findK_files, Option.map_some]
  cases hp : posF f n with
  | none =>
    obtain ⟨h1, h2⟩ := set_none b hp
    simp only [Option.map_none, filesA, h1, h2]
  | some i =>
    obtain ⟨h1, h2⟩ := set_some b hp
    simp only [Option.map_some, Nat.add_zero, filesA, h1, h2]
theorem delete_files [ht : UndIs P t (.map kt et)] [hk : UndIs P kt .string] (hj : H[j]? = some (filesA f)) :
    deleteA P H t (.mp j) (AV.str n) = some (H.set j (filesA (Dk.del f n))) := by
  unfold deleteA
  rw [mapTy_is (kt := kt) (et := et)]
  simp only [Option.bind_some, keyKind_str, if_true, mapOf_files hj, findK_files, Option.map_some]
  cases hp : posF f n with
  | none =>
    rw [del_none hp]
    simp only [Option.map_none]
    congr 1
    apply List.ext_getElem?
    intro i
    by_cases hi : j = i
    · subst hi; rw [List.getElem?_set_self (List.getElem?_eq_some_iff.1 hj).1, hj]
    · rw [List.getElem?_set_ne hi]
  | some i =>
    obtain ⟨h1, h2⟩ := del_some hp
    simp only [Option.map_some, Nat.add_zero, filesA, h1, h2]
end
end
end Go.Lv
