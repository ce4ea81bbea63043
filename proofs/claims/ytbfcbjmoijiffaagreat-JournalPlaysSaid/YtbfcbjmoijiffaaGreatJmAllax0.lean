/- A value semantics of the loaded code, its soundness, and walks through functions over it. -/
import Derived.Test.YtbfcbjmoijiffaaGreatJlSpec
import Derived.Test.YtbfcbjmoijiffaaGreatDlAllax0
import Derived.Test.YtbfcbjmoijiffaaGreatJrAlldx0
import Derived.Test.YtbfcbjmoijiffaaGreatDkAllbx0
set_option linter.unusedVariables false
set_option linter.unusedSimpArgs false
/-! The document's log, in plain Lean, beside the program's. -/
namespace Jm
open Dk (Disk Bs)
open Jl (Log fresh then_)
open Dl (Kept)
def append (s : Disk) (n : Bs) (l : Log) (p : Bs) : Disk × Log × Int :=
  if l.bad = true then (s, l, 10)
  else if 60000 < p.length then (s, l, 3)
  else let r := Dr.append s n (Jr.frame p)
    if r.2 ≠ 0 then (r.1, l, r.2)
    else let q := Dr.sync r.1
      if q.2 ≠ 0 then (q.1, { l with bad := true }, q.2) else (q.1, { l with recs := l.recs ++ [p] }, 0)
def renew (s : Disk) (n : Bs) (l : Log) (ps : List Bs) : Disk × Log × Int :=
  if l.bad = true then (s, l, 10)
  else if ps.all (fun p => decide (p.length ≤ 60000)) = false then (s, l, 3)
  else let q := then_ (Dr.write s (fresh n) (Jr.frames ps)) Dr.sync
    if q.2 ≠ 0 then ((Dr.delete q.1 (fresh n)).1, l, q.2)
    else let v := then_ (Dr.rename q.1 (fresh n) n) Dr.sync
      if v.2 ≠ 0 then (v.1, { l with bad := true }, v.2) else (v.1, { l with recs := ps }, 0)
def open_ (s : Disk) (n : Bs) : Disk × Option Log × Int :=
  let r := Dr.read s n
  if r.2.2 ≠ 0 ∧ r.2.2 ≠ 6 then (r.1, none, r.2.2)
  else let c := Jr.scan r.2.1
    let v := if c.2 < r.2.1.length then renew r.1 n ⟨[], false⟩ c.1 else (r.1, ⟨[], false⟩, 0)
    if v.2.2 ≠ 0 then (v.1, none, v.2.2)
    else let d := Dr.delete v.1 (fresh n)
      if d.2 ≠ 0 ∧ d.2 ≠ 6 then (d.1, none, d.2) else (d.1, some { v.2.1 with recs := c.1 }, 0)
def openTail (s : Disk) (n : Bs) (l : Log) : Disk × Option Log × Int :=
  if (Dr.delete s (fresh n)).2 ≠ 0 ∧ (Dr.delete s (fresh n)).2 ≠ 6 then ((Dr.delete s (fresh n)).1, none, (Dr.delete s (fresh n)).2) else ((Dr.delete s (fresh n)).1, some l, 0)
theorem open_bad {s : Disk} {n : Bs} (h : (Dr.read s n).2.2 ≠ 0 ∧ (Dr.read s n).2.2 ≠ 6) : open_ s n = ((Dr.read s n).1, none, (Dr.read s n).2.2) := by
  unfold open_; simp only; rw [if_pos h]
theorem open_plain {s : Disk} {n : Bs} (h : ¬ ((Dr.read s n).2.2 ≠ 0 ∧ (Dr.read s n).2.2 ≠ 6)) (he : ¬ (Jr.scan (Dr.read s n).2.1).2 < (Dr.read s n).2.1.length) : open_ s n = openTail (Dr.read s n).1 n ⟨(Jr.scan (Dr.read s n).2.1).1, false⟩ := by
  unfold open_ openTail; simp only; rw [if_neg h, if_neg he]; simp
theorem open_fail {s : Disk} {n : Bs} (h : ¬ ((Dr.read s n).2.2 ≠ 0 ∧ (Dr.read s n).2.2 ≠ 6)) (he : (Jr.scan (Dr.read s n).2.1).2 < (Dr.read s n).2.1.length)
    (hv : (renew (Dr.read s n).1 n ⟨[], false⟩ (Jr.scan (Dr.read s n).2.1).1).2.2 ≠ 0) :
    open_ s n = ((renew (Dr.read s n).1 n ⟨[], false⟩ (Jr.scan (Dr.read s n).2.1).1).1, none, (renew (Dr.read s n).1 n ⟨[], false⟩ (Jr.scan (Dr.read s n).2.1).1).2.2) := by
  unfold open_; simp only; rw [if_neg h, if_pos he, if_pos hv]
theorem open_renew {s : Disk} {n : Bs} (h : ¬ ((Dr.read s n).2.2 ≠ 0 ∧ (Dr.read s n).2.2 ≠ 6)) (he : (Jr.scan (Dr.read s n).2.1).2 < (Dr.read s n).2.1.length)
    (hv : (renew (Dr.read s n).1 n ⟨[], false⟩ (Jr.scan (Dr.read s n).2.1).1).2.2 = 0) :
    open_ s n = openTail (renew (Dr.read s n).1 n ⟨[], false⟩ (Jr.scan (Dr.read s n).2.1).1).1 n { (renew (Dr.read s n).1 n ⟨[], false⟩ (Jr.scan (Dr.read s n).2.1).1).2.1 with recs := (Jr.scan (Dr.read s n).2.1).1 } := by
  unfold open_ openTail; simp only; rw [if_neg h, if_pos he, if_neg (fun h => h hv)]

/-! ### Both -/
variable {c : Int} {s r : Disk}
theorem kw (h : Kept c s r) (a b : Bs) : Kept (c + 1) (Dk.write s a b).1 (Dr.write r a b).1 ∧ (Dr.write r a b).2 = (Dk.write s a b).2 := ⟨Dl.call_next h (h.live.write a b).1 (Dl.rwrite_plan r a b), (h.live.write a b).2⟩
theorem ka (h : Kept c s r) (a b : Bs) : Kept (c + 1) (Dk.append s a b).1 (Dr.append r a b).1 ∧ (Dr.append r a b).2 = (Dk.append s a b).2 := ⟨Dl.call_next h (h.live.append a b).1 (Dl.rappend_plan r a b), (h.live.append a b).2⟩
theorem kn (h : Kept c s r) (a b : Bs) : Kept (c + 1) (Dk.rename s a b).1 (Dr.rename r a b).1 ∧ (Dr.rename r a b).2 = (Dk.rename s a b).2 := ⟨Dl.call_next h (h.live.rename a b).1 (Dl.rrename_plan r a b), (h.live.rename a b).2⟩
theorem kd (h : Kept c s r) (a : Bs) : Kept (c + 1) (Dk.delete s a).1 (Dr.delete r a).1 ∧ (Dr.delete r a).2 = (Dk.delete s a).2 := ⟨Dl.call_next h (h.live.delete a).1 (Dl.rdelete_plan r a), (h.live.delete a).2⟩
theorem ks (h : Kept c s r) : Kept (c + 1) (Dk.sync s).1 (Dr.sync r).1 ∧ (Dr.sync r).2 = (Dk.sync s).2 := ⟨Dl.call_next h h.live.sync.1 (Dl.rsync_plan r), h.live.sync.2⟩
theorem kr (h : Kept c s r) (a : Bs) : Kept (c + 1) (Dk.read s a).1 (Dr.read r a).1 ∧ (Dr.read r a).2 = (Dk.read s a).2 := ⟨Dl.call_next h (h.live.read a).1 (Dl.rread_plan r a), (h.live.read a).2⟩
theorem append_ok (h : Kept c s r) (n : Bs) (l : Log) (p : Bs) : Kept (c + 2) (Jl.append s n l p).1 (append r n l p).1 ∧ (append r n l p).2 = (Jl.append s n l p).2 := by
  unfold Jl.append append
  by_cases h1 : l.bad = true
  · simp only [if_pos h1]; exact ⟨h.le (by omega), trivial⟩
  simp only [if_neg h1]
  by_cases h2 : 60000 < p.length
  · simp only [if_pos h2]; exact ⟨h.le (by omega), trivial⟩
  simp only [if_neg h2]
  obtain ⟨k1, e1⟩ := ka h n (Jr.frame p)
  generalize Dk.append s n (Jr.frame p) = x at *
  generalize Dr.append r n (Jr.frame p) = y at *
  rw [e1]
  by_cases h3 : x.2 ≠ 0
  · simp only [if_pos h3]; exact ⟨k1.le (by omega), trivial⟩
  simp only [if_neg h3]
  obtain ⟨k2, e2⟩ := ks k1
  generalize Dk.sync x.1 = u at *
  generalize Dr.sync y.1 = v at *
  rw [e2]
  by_cases h4 : u.2 ≠ 0
  · simp only [if_pos h4]; exact ⟨k2.le (by omega), trivial⟩
  simp only [if_neg h4]; exact ⟨k2.le (by omega), trivial⟩
theorem then_ok {x y : Disk × Int} (h : Kept c x.1 y.1) (e : y.2 = x.2) : Kept (c + 1) (then_ x Dk.sync).1 (then_ y Dr.sync).1 ∧ (then_ y Dr.sync).2 = (then_ x Dk.sync).2 := by
  unfold then_
  rw [e]
  by_cases h1 : x.2 = 0
  · rw [if_pos h1, if_pos h1]; exact ks h
  · rw [if_neg h1, if_neg h1]; exact ⟨h.le (by omega), e⟩
theorem renew_ok (h : Kept c s r) (n : Bs) (l l' : Log) (hl : l'.bad = l.bad) (ps : List Bs) : Kept (c + 5) (Jl.renew s n l ps).1 (renew r n l' ps).1 ∧ (renew r n l' ps).2.2 = (Jl.renew s n l ps).2.2 ∧ ((renew r n l' ps).2.2 = 0 → (renew r n l' ps).2.1 = (Jl.renew s n l ps).2.1) ∧ (l' = l → (renew r n l' ps).2.1 = (Jl.renew s n l ps).2.1) := by
  unfold Jl.renew renew
  rw [hl]
  by_cases h1 : l.bad = true
  · simp only [if_pos h1]; exact ⟨h.le (by omega), trivial, fun h => by omega, fun h => h⟩
  simp only [if_neg h1]
  by_cases h2 : ps.all (fun p => decide (p.length ≤ 60000)) = false
  · simp only [if_pos h2]; exact ⟨h.le (by omega), trivial, fun h => by omega, fun h => h⟩
  simp only [if_neg h2]
  obtain ⟨k1, e1⟩ := kw h (fresh n) (Jr.frames ps)
  obtain ⟨k2, e2⟩ := then_ok k1 e1
  generalize then_ (Dk.write s (fresh n) (Jr.frames ps)) Dk.sync = x at *
  generalize then_ (Dr.write r (fresh n) (Jr.frames ps)) Dr.sync = y at *
  rw [e2]
  by_cases h3 : x.2 ≠ 0
  · simp only [if_pos h3]; exact ⟨(kd k2 (fresh n)).1.le (by omega), trivial, fun h => absurd h h3, fun h => h⟩
  simp only [if_neg h3]
  obtain ⟨k3, e3⟩ := kn k2 (fresh n) n
  obtain ⟨k4, e4⟩ := then_ok k3 e3
  generalize then_ (Dk.rename x.1 (fresh n) n) Dk.sync = u at *
  generalize then_ (Dr.rename y.1 (fresh n) n) Dr.sync = v at *
  rw [e4]
  by_cases h4 : u.2 ≠ 0
  · simp only [if_pos h4]; exact ⟨k4.le (by omega), trivial, fun h => absurd h h4, fun h => by rw [h]⟩
  simp only [if_neg h4]
  exact ⟨k4.le (by omega), trivial, fun _ => trivial, fun h => trivial⟩
theorem renew_recs0 {n : Bs} {l : Log} {ps : List Bs} (h : (Jl.renew s n l ps).2.2 = 0) : (Jl.renew s n l ps).2.1 = { l with recs := ps } := by
  unfold Jl.renew at *
  split
  · rename_i h1; rw [if_pos h1] at h; simp at h
  · rename_i h1
    rw [if_neg h1] at h
    split
    · rename_i h2; rw [if_pos h2] at h; simp at h
    · rename_i h2
      rw [if_neg h2] at h
      simp only at h ⊢
      split
      · rename_i h3; rw [if_pos h3] at h; exact absurd h h3
      · rename_i h3
        rw [if_neg h3] at h
        split
        · rename_i h4; rw [if_pos h4] at h; exact absurd h h4
        · rfl
theorem open_ok (h : Kept c s r) (n : Bs) : Kept (c + 8) (Jl.open_ s n).1 (open_ r n).1 ∧ (open_ r n).2 = (Jl.open_ s n).2 := by
  unfold Jl.open_ open_
  obtain ⟨k1, e1⟩ := kr h n
  generalize Dk.read s n = x at *
  generalize Dr.read r n = y at *
  simp only
  rw [e1]
  by_cases h1 : x.2.2 ≠ 0 ∧ x.2.2 ≠ 6
  · simp only [if_pos h1]; exact ⟨k1.le (by omega), trivial⟩
  simp only [if_neg h1]
  have tail : ∀ (u v : Disk) (lu lv : Log), Kept (c + 6) u v → lv = lu → Kept (c + 8) (if (Dk.delete u (fresh n)).2 ≠ 0 ∧ (Dk.delete u (fresh n)).2 ≠ 6 then ((Dk.delete u (fresh n)).1, (none : Option Log), (Dk.delete u (fresh n)).2) else ((Dk.delete u (fresh n)).1, some lu, 0)).1 (if (Dr.delete v (fresh n)).2 ≠ 0 ∧ (Dr.delete v (fresh n)).2 ≠ 6 then ((Dr.delete v (fresh n)).1, (none : Option Log), (Dr.delete v (fresh n)).2) else ((Dr.delete v (fresh n)).1, some lv, 0)).1 ∧
      (if (Dr.delete v (fresh n)).2 ≠ 0 ∧ (Dr.delete v (fresh n)).2 ≠ 6 then ((Dr.delete v (fresh n)).1, (none : Option Log), (Dr.delete v (fresh n)).2) else ((Dr.delete v (fresh n)).1, some lv, 0)).2 = (if (Dk.delete u (fresh n)).2 ≠ 0 ∧ (Dk.delete u (fresh n)).2 ≠ 6 then ((Dk.delete u (fresh n)).1, (none : Option Log), (Dk.delete u (fresh n)).2) else ((Dk.delete u (fresh n)).1, some lu, 0)).2 := by
    intro u v lu lv hk he
    obtain ⟨k3, e3⟩ := kd hk (fresh n)
    generalize Dk.delete u (fresh n) = d at *
    generalize Dr.delete v (fresh n) = e at *
    rw [e3, he]
    by_cases h2 : d.2 ≠ 0 ∧ d.2 ≠ 6
    · rw [if_pos h2, if_pos h2]; exact ⟨k3.le (by omega), rfl⟩
    · rw [if_neg h2, if_neg h2]; exact ⟨k3.le (by omega), rfl⟩
  by_cases h2 : (Jr.scan x.2.1).2 < x.2.1.length
  · simp only [if_pos h2]
    obtain ⟨k2, e2, e3, _⟩ := renew_ok k1 n ⟨(Jr.scan x.2.1).1, false⟩ ⟨[], false⟩ rfl (Jr.scan x.2.1).1
    have e4 := @renew_recs0 x.1 n ⟨(Jr.scan x.2.1).1, false⟩ (Jr.scan x.2.1).1
    generalize Jl.renew x.1 n ⟨(Jr.scan x.2.1).1, false⟩ (Jr.scan x.2.1).1 = u at *
    generalize renew y.1 n ⟨[], false⟩ (Jr.scan x.2.1).1 = v at *
    rw [e2]
    by_cases h3 : u.2.2 ≠ 0
    · simp only [if_pos h3]; exact ⟨k2.le (by omega), trivial⟩
    · simp only [if_neg h3]
      have h4 : u.2.2 = 0 := Classical.not_not.1 h3
      exact tail _ _ _ _ (k2.le (by omega)) (by rw [e3 (by omega), e4 h4])
  · simp only [if_neg h2]
    exact tail _ _ _ _ (k1.le (by omega)) rfl

/-! ### How much the records hold -/
theorem fit (l : List Bs) : 6 * l.length ≤ (Jr.frames l).length := by
  induction l with
  | nil => simp
  | cons p l ih => rw [Jr.frames_cons, List.length_append, Jr.frame_len, List.length_cons]; omega
theorem append_recs (n : Bs) (l : Log) (p : Bs) : (Jr.frames (Jl.append s n l p).2.1.recs).length ≤ (Jr.frames l.recs).length + 60006 := by
  unfold Jl.append
  split
  · simp
  · split
    · simp
    · rename_i h2
      simp only
      split
      · simp
      · split
        · simp
        · simp only
          rw [Jr.frames_append, List.length_append, Jr.frames_cons, List.length_append, Jr.frame_len]
          simp [Jr.frames]; omega
theorem renew_recs (n : Bs) (l : Log) (ps : List Bs) : (Jr.frames (Jl.renew s n l ps).2.1.recs).length ≤ (Jr.frames l.recs).length + (Jr.frames ps).length := by
  unfold Jl.renew
  split
  · simp
  · split
    · simp
    · simp only
      split
      · simp
      · split
        · simp
        · simp
theorem open_recs {n : Bs} {l : Log} (h : (Jl.open_ s n).2.1 = some l) : (Jr.frames l.recs).length ≤ (Dk.read s n).2.1.length := by
  unfold Jl.open_ at h
  simp only at h
  generalize Dk.read s n = x at *
  have hs := Jr.scan_end x.2.1
  by_cases h1 : x.2.2 ≠ 0 ∧ x.2.2 ≠ 6
  · rw [if_pos h1] at h; cases h
  rw [if_neg h1] at h
  have tail : ∀ (u : Disk) (m : Log), (if (Dk.delete u (fresh n)).2 ≠ 0 ∧ (Dk.delete u (fresh n)).2 ≠ 6 then ((Dk.delete u (fresh n)).1, (none : Option Log), (Dk.delete u (fresh n)).2) else ((Dk.delete u (fresh n)).1, some m, 0)).2.1 = some l → l = m := by
    intro u m he
    split at he
    · cases he
    · injection he with he; exact he.symm
  by_cases h2 : (Jr.scan x.2.1).2 < x.2.1.length
  · rw [if_pos h2] at h
    by_cases h3 : (Jl.renew x.1 n ⟨(Jr.scan x.2.1).1, false⟩ (Jr.scan x.2.1).1).2.2 ≠ 0
    · rw [if_pos h3] at h; cases h
    · rw [if_neg h3] at h
      rw [tail _ _ h, renew_recs0 (Classical.not_not.1 h3)]
      simp only; omega
  · rw [if_neg h2, if_neg (by simp)] at h
    rw [tail _ _ h]
    simp only; omega
theorem read_len (h : Dk.Ok s) (n : Bs) : (Dk.read s n).2.1.length ≤ 1073741824 := by
  have hk := Dk.Keeps.call h [n]
  unfold Dk.read
  generalize Dk.call s [n] = x at *
  have hu := hk.ok.used
  unfold Dk.Len at hu
  by_cases h1 : x.2.2 ≠ 0
  · simp only [if_pos h1]; simp
  simp only [if_neg h1]
  have hd := Dk.data_le x.1.now n
  unfold Dk.data at hd
  cases hg : Dk.get x.1.now n with
  | none => simp
  | some b => rw [hg] at hd; simp only [Option.getD_some] at hd; simp only; omega
end Jm
/- Walks: the document's log as it stands in memory. -/
set_option linter.unusedVariables false
set_option linter.unusedSimpArgs false
namespace Go.Proofs
open Go.Lv
namespace Jn
open Dk (Files Bs Ch Ev)
open Dl (Kept)
variable {H : Heap}

/-- A slice that grows at its own end, or one of nothing without room; where its mark lies. -/
def TokS {α : Type} (f : α → AV) (k : Nat) (H : Heap) (a : AV) (xs : List α) (tp : List Nat) : Prop :=
  (a = nilA ∧ xs = [] ∧ tp = []) ∨ (a = .ow [] 0 ∧ xs = [] ∧ tp = []) ∨ ∃ j, a = .ow (xs.map f) j ∧ H[j]? = some [.tk (xs.length * k)] ∧ 0 < xs.length ∧ tp = [j]
section
variable {α : Type} {f : α → AV} {k : Nat} {a : AV} {xs : List α} {tp : List Nat}
theorem TokS.one (h : TokS f k H a xs tp) : a.cells = [a] ∧ a.one = true := by
  rcases h with ⟨rfl, _⟩ | ⟨rfl, _⟩ | ⟨j, rfl, _⟩ <;> exact ⟨rfl, rfl⟩
theorem TokS.plain (h : TokS f k H a xs tp) : plainA a = .sl (xs.map f) := by
  rcases h with ⟨rfl, rfl, _⟩ | ⟨rfl, rfl, _⟩ | ⟨j, rfl, _⟩ <;> rfl
theorem TokS.lt (h : TokS f k H a xs tp) : ∀ x ∈ tp, x < H.length ∧ H[x]? = some [.tk (xs.length * k)] := by
  intro x hx
  rcases h with ⟨_, _, rfl⟩ | ⟨_, _, rfl⟩ | ⟨j, _, h2, _, rfl⟩
  · simp at hx
  · simp at hx
  · obtain rfl := List.mem_singleton.1 hx
    exact ⟨(List.getElem?_eq_some_iff.1 h2).1, h2⟩
theorem TokS.same {H' : Heap} (h : TokS f k H a xs tp) (hs : ∀ x ∈ tp, H'[x]? = H[x]?) : TokS f k H' a xs tp := by
  rcases h with h | h | ⟨j, h1, h2, h3, rfl⟩
  · exact .inl h
  · exact .inr (.inl h)
  · exact .inr (.inr ⟨j, h1, by rw [hs j (by simp)]; exact h2, h3, rfl⟩)
theorem TokS.of {n : Nat} (h : TokOf f k n H a xs) : ∃ tp, TokS f k H a xs tp ∧ ∀ x ∈ tp, n ≤ x := by
  rcases h with ⟨h1, h2⟩ | ⟨j, h1, h2, h3, h4⟩
  · exact ⟨[], .inl ⟨h1, h2, rfl⟩, by simp⟩
  · exact ⟨[j], .inr (.inr ⟨j, h2, h3, h4, rfl⟩), by simpa using h1⟩
theorem TokS.len (h : TokS f k H a xs tp) {el : TypeId} : lenD (some (.slice el)) (owA a) = some (.v (.int .i64 xs.length)) := by
  rcases h with ⟨rfl, rfl, _⟩ | ⟨rfl, rfl, _⟩ | ⟨j, rfl, _⟩
  · rfl
  · rfl
  · simp [owA, lenD]
end
theorem bind_appendS {P : Program} {α : Type} {f : α → AV} {k : Nat} {a : AV} {xs : List α} {tp : List Nat} [hf : CellsN f k] {t u el el' : TypeId} {by_ : Nat} {z : List AV} [ht : UndIs P t (.slice el)] [hu : UndIs P u (.slice el')] [hs : SizeIs P el k] [hb : BytesIs P el by_] [hz : ZeroIs P el z]
    {ys : List α} {Q : AV × Heap → Prop} (hr : TokS f k H a xs tp) (hk : (0 : Int) < k) (hzl : (z.length : Int) = k) (h0 : 0 < ys.length) (hle : ((xs.length : Int) + ys.length) * (by_ + 1) ≤ 140737488355328)
    (hq : ∀ a' H', TokS f k H' a' (xs ++ ys) [H.length] → (∀ i, i < H.length → i ∉ tp → H'[i]? = H[i]?) → H.length ≤ H'.length → Q (a', H')) : @bindP _ (appendT P H t u a (.sl (ys.map f))) ⟨Q⟩ := by
  have hle' : (xs.length + ys.length) * (by_ + 1) ≤ 140737488355328 := by
    have : (((xs.length + ys.length) * (by_ + 1) : Nat) : Int) = ((xs.length : Int) + ys.length) * (by_ + 1) := by push_cast; rfl
    omega
  have c1 : 0 < k ∧ z.length = k ∧ (∀ a ∈ ys.map f, a.cells.length = k) ∧ 0 < (ys.map f).length := ⟨by omega, by omega, map_cells ys, by simpa using h0⟩
  have hnew : TokS f k (H ++ [[.tk (ys.length * k)]]) (.ow (ys.map f) H.length) ([] ++ ys) [H.length] := .inr (.inr ⟨H.length, by simp, by rw [List.getElem?_append_right (Nat.le_refl _)]; simp, by simpa using h0, rfl⟩)
  rcases hr with ⟨rfl, rfl, rfl⟩ | ⟨rfl, rfl, rfl⟩ | ⟨j, rfl, hH, hx, rfl⟩
  · have e : appendT P H t u nilA (.sl (ys.map f)) = some (.ow (ys.map f) H.length, H ++ [[.tk (ys.length * k)]]) := by
      unfold appendT nilA
      rw [ht.h, hu.h]
      simp only [hs.h, hb.h, hz.h]
      rw [if_pos c1, if_pos ⟨rfl, by simpa using hle'⟩, List.length_map]
    rw [e, bindP_some]
    exact hq _ _ hnew (fun i hi _ => List.getElem?_append_left hi) (by simp)
  · have e : appendT P H t u (.ow [] 0) (.sl (ys.map f)) = some (.ow (ys.map f) H.length, H ++ [[.tk (ys.length * k)]]) := by
      unfold appendT
      rw [ht.h, hu.h]
      simp only [hs.h, hb.h, hz.h]
      rw [if_pos c1, if_neg (by simp), if_pos ⟨rfl, by simpa using hle'⟩, List.length_map]
    rw [e, bindP_some]
    exact hq _ _ hnew (fun i hi _ => List.getElem?_append_left hi) (by simp)
  · have e : appendT P H t u (.ow (xs.map f) j) (.sl (ys.map f)) = some (.ow ((xs ++ ys).map f) H.length, H.set j [] ++ [[.tk ((xs ++ ys).length * k)]]) := by
      unfold appendT
      rw [ht.h, hu.h]
      simp only [hs.h, hb.h, hz.h]
      rw [if_pos c1, if_pos ⟨by rw [hH]; simp [tkRow], by simpa using hle', map_cells xs, by simpa using hx⟩]
      simp
    rw [e, bindP_some]
    refine hq _ _ (.inr (.inr ⟨H.length, rfl, ?_, by simp; omega, rfl⟩)) (fun i hi hn => ?_) (by simp)
    · rw [List.getElem?_append_right (by simp)]; simp
    · rw [List.getElem?_append_left (by simpa using hi), List.getElem?_set_ne (fun h => hn (by simp [h]))]
/-- Anything behind nothing. -/
theorem bind_append0 {P : Program} {α : Type} {f : α → AV} {k : Nat} [hf : CellsN f k] {t u el el' : TypeId} {by_ : Nat} {z : List AV} [ht : UndIs P t (.slice el)] [hu : UndIs P u (.slice el')] [hs : SizeIs P el k] [hb : BytesIs P el by_] [hz : ZeroIs P el z]
    {ys : List α} {Q : AV × Heap → Prop} (hk : (0 : Int) < k) (hzl : (z.length : Int) = k) (hle : (ys.length : Int) * (by_ + 1) ≤ 140737488355328)
    (hq : ∀ a' H' tp, TokS f k H' a' ys tp → H <+: H' → (∀ x ∈ tp, H.length ≤ x) → Q (a', H')) : @bindP _ (appendT P H t u (.ow [] 0) (.sl (ys.map f))) ⟨Q⟩ := by
  have hle' : ys.length * (by_ + 1) ≤ 140737488355328 := by
    have : ((ys.length * (by_ + 1) : Nat) : Int) = (ys.length : Int) * (by_ + 1) := by push_cast; rfl
    omega
  rcases Nat.eq_zero_or_pos ys.length with h0 | h0
  · have hy := List.eq_nil_of_length_eq_zero h0
    subst hy
    have e : appendT P H t u (.ow [] 0) (.sl (([] : List α).map f)) = some (.ow [] 0, H) := by
      unfold appendT
      rw [ht.h, hu.h]
      simp only [hs.h, hb.h, hz.h]
      rw [if_neg (by simp), if_pos ⟨by omega, rfl⟩]
      rfl
    rw [e, bindP_some]
    exact hq _ _ [] (.inr (.inl ⟨rfl, rfl, rfl⟩)) (List.prefix_refl _) (by simp)
  · have c1 : 0 < k ∧ z.length = k ∧ (∀ a ∈ ys.map f, a.cells.length = k) ∧ 0 < (ys.map f).length := ⟨by omega, by omega, map_cells ys, by simpa using h0⟩
    have e : appendT P H t u (.ow [] 0) (.sl (ys.map f)) = some (.ow (ys.map f) H.length, H ++ [[.tk (ys.length * k)]]) := by
      unfold appendT
      rw [ht.h, hu.h]
      simp only [hs.h, hb.h, hz.h]
      rw [if_pos c1, if_neg (by simp), if_pos ⟨rfl, by simpa using hle'⟩, List.length_map]
    rw [e, bindP_some]
    exact hq _ _ [H.length] (.inr (.inr ⟨H.length, rfl, by rw [List.getElem?_append_right (Nat.le_refl _)]; simp, h0, rfl⟩)) (List.prefix_append _ _) (by simp)

structure RogR (H : Heap) (jl j : Nat) (pr : AV) (tp Sd : List Nat) (n : Bs) (l : Jl.Log) (s : Dk.Disk) : Prop where
  hl : H[jl]? = some [.ptr j 0, AV.str n, pr, .b l.bad]
  recs : TokS AV.bytes 1 H pr l.recs tp
  disk : RefAt H j Sd s
  out : jl ∉ Sd
  tout : ∀ x ∈ tp, x ∉ Sd
def RogAt (H : Heap) (jl j : Nat) (S : List Nat) (n : Bs) (l : Jl.Log) (s : Dk.Disk) : Prop := ∃ pr tp Sd, RogR H jl j pr tp Sd n l s ∧ S = jl :: (tp ++ Sd)
theorem RogR.jt {jl j : Nat} {pr : AV} {tp Sd : List Nat} {n : Bs} {l : Jl.Log} {s : Dk.Disk} (h : RogR H jl j pr tp Sd n l s) : jl ∉ tp := fun hx => by
  have := (h.recs.lt _ hx).2
  rw [h.hl] at this; cases this
/-- The disk of a log went on. -/
theorem RogR.step {H' : Heap} {jl j : Nat} {pr : AV} {tp Sd S' : List Nat} {n : Bs} {l : Jl.Log} {s s' : Dk.Disk} (h : RogR H jl j pr tp Sd n l s) (hd : RefAt H' j S' s') (hs : Step H Sd H' S') : RogR H' jl j pr tp S' n l s' ∧ Step H (jl :: (tp ++ Sd)) H' (jl :: (tp ++ S')) := by
  have hjl : jl < H.length := (List.getElem?_eq_some_iff.1 h.hl).1
  have hn : ∀ x, x < H.length → x ∉ Sd → x ∉ S' := fun x hx hxs hx' => by
    rcases hs.new x hx' with h1 | h1
    · exact hxs h1
    · omega
  refine ⟨⟨?_, ?_, hd, hn jl hjl h.out, fun x hx => hn x (h.recs.lt x hx).1 (h.tout x hx)⟩, ⟨hs.len, fun i hi hS => hs.same i hi (fun hm => hS (by simp [hm])), fun x hx => ?_⟩⟩
  · rw [hs.same jl hjl h.out]; exact h.hl
  · exact h.recs.same fun x hx => hs.same x (h.recs.lt x hx).1 (h.tout x hx)
  · rcases List.mem_cons.1 hx with rfl | hx
    · exact .inl (by simp)
    · rcases List.mem_append.1 hx with hx | hx
      · exact .inl (by simp [hx])
      · rcases hs.new x hx with h1 | h1
        · exact .inl (by simp [h1])
        · exact .inr h1
/-- The log's own cells are written. -/
theorem RogR.put {jl j : Nat} {pr : AV} {tp Sd : List Nat} {n : Bs} {l : Jl.Log} {s : Dk.Disk} (h : RogR H jl j pr tp Sd n l s) (b : Bool) : RogR (H.set jl [.ptr j 0, AV.str n, pr, .b b]) jl j pr tp Sd n { l with bad := b } s ∧ Step H (jl :: (tp ++ Sd)) (H.set jl [.ptr j 0, AV.str n, pr, .b b]) (jl :: (tp ++ Sd)) := by
  have hjl : jl < H.length := (List.getElem?_eq_some_iff.1 h.hl).1
  refine ⟨⟨get_set hjl, ?_, ?_, h.out, h.tout⟩, ⟨by simp, fun i hi hS => by rw [get_set_ne_ (fun he => hS (by simp [he]))], fun x hx => .inl hx⟩⟩
  · refine h.recs.same fun x hx => get_set_ne_ ?_
    rintro rfl
    exact h.jt hx
  · exact h.disk.same fun x hx => get_set_ne_ (by rintro rfl; exact h.out hx)
/-- Other records. -/
theorem RogR.recs_set {H' : Heap} {jl j : Nat} {pr pr' : AV} {tp tp' Sd : List Nat} {n : Bs} {l : Jl.Log} {s : Dk.Disk} {rs : List Bs} (h : RogR H jl j pr tp Sd n l s) (hlen : H.length ≤ H'.length) (hsame : ∀ x, x < H.length → x ∉ tp → H'[x]? = H[x]?) (hr : TokS AV.bytes 1 H' pr' rs tp') (hnew : ∀ x ∈ tp', x ≠ jl ∧ x ∉ Sd) :
    RogR (H'.set jl [.ptr j 0, AV.str n, pr', .b l.bad]) jl j pr' tp' Sd n { l with recs := rs } s := by
  have hjl : jl < H.length := (List.getElem?_eq_some_iff.1 h.hl).1
  have hdl := h.disk.lt
  refine ⟨get_set (by omega), ?_, ?_, h.out, fun x hx => (hnew x hx).2⟩
  · exact hr.same fun x hx => get_set_ne_ (fun he => (hnew x hx).1 he.symm)
  · refine h.disk.same fun x hx => ?_
    rw [get_set_ne_ (by rintro rfl; exact h.out hx), hsame x (hdl x hx) (fun ht => h.tout x ht hx)]
theorem RogR.step_set {H' : Heap} {jl j : Nat} {pr : AV} {tp tp' Sd : List Nat} {n : Bs} {l : Jl.Log} {s : Dk.Disk} {cs : List AV} (h : RogR H jl j pr tp Sd n l s) (hlen : H.length ≤ H'.length) (hsame : ∀ x, x < H.length → x ∉ tp → H'[x]? = H[x]?) (hnew : ∀ x ∈ tp', H.length ≤ x) :
    Step H (jl :: (tp ++ Sd)) (H'.set jl cs) (jl :: (tp' ++ Sd)) := by
  refine ⟨by simp; omega, fun i hi hS => ?_, fun x hx => ?_⟩
  · simp only [List.mem_cons, List.mem_append, not_or] at hS
    rw [get_set_ne_ (fun he => hS.1 he.symm), hsame i hi hS.2.1]
  · rcases List.mem_cons.1 hx with rfl | hx
    · exact .inl (by simp)
    · rcases List.mem_append.1 hx with hx | hx
      · exact .inr (hnew x hx)
      · exact .inl (by simp [hx])

theorem rlappend_w {jl j : Nat} {S : List Nat} {n : Bs} {l : Jl.Log} {s r : Dk.Disk} {c : Int} (h : RogAt H jl j S n l r) (hk : Kept c s r) (hc : c ≤ 990) (hn : n.length ≤ 100000) (hr : l.recs.length ≤ 2147483648) (p : Bs) (hp : p.length ≤ 140737488355328) :
    WF Tryz.prog cfg 11 [.ptr jl 0, .sl (p.map byteA)] H (fun v H' => v = .i (Jm.append r n l p).2.2 ∧ ∃ S', RogAt H' jl j S' n (Jm.append r n l p).2.1 (Jm.append r n l p).1 ∧ Step H S H' S') := by
  obtain ⟨pr, tp, Sd, hL, rfl⟩ := h
  have hl := hL.hl
  have hm : ∀ d, cfg.muF 11 d = (false) := fun _ => rfl
  have hz : ∀ d, cfg.fzF 11 d = (false) := fun _ => rfl
  have ht : ∀ d, cfg.tkF 11 d = (d == 51) := fun _ => rfl
  have hr_ : ∀ g, cfg.raw g = (g == 68) := fun _ => rfl
  refine rF_fn rfl rfl Tryz.func11 rfl ?_
  unfold Jm.append
  cases hbad : l.bad with
  | true =>
    rw [if_pos rfl]
    rw [hbad] at hl
    repeat' first | simp (disch := first | omega | assumption | decide) only [go_sem, hm, hz, ht, hr_, hl, wdl, bind_some_, map_some_, oneD_fold] | refine ifP_in (fun _ => ?_) fun _ => ?_
    exact ⟨_, ⟨pr, tp, Sd, hL, rfl⟩, Step.refl _ _⟩
  | false =>
    rw [if_neg (by simp)]
    rw [hbad] at hl
    repeat' first | simp (disch := first | omega | assumption | decide) only [go_sem, hm, hz, ht, hr_, hl, wdl, bind_some_, map_some_, oneD_fold] | refine ifP_in (fun _ => ?_) fun _ => ?_
    refine rF_use (rFrame_w p hp) ?_
    rintro _ H1 ⟨rfl, rfl⟩
    have hfl := Jr.frame_len p
    by_cases hbig : 60000 < p.length
    · rw [if_pos hbig, if_pos hbig]
      repeat' first | simp (disch := first | omega | assumption | decide) only [go_sem, hm, hz, ht, hr_, hl, wdl, bind_some_, map_some_, oneD_fold] | refine ifP_in (fun _ => ?_) fun _ => ?_
      exact ⟨_, ⟨pr, tp, Sd, hL, rfl⟩, Step.refl _ _⟩
    · rw [if_neg hbig, if_neg hbig]
      repeat' first | simp (disch := first | omega | assumption | decide) only [go_sem, hm, hz, ht, hr_, hl, wdl, bind_some_, map_some_, oneD_fold] | refine ifP_in (fun _ => ?_) fun _ => ?_
      refine rF_use (rappend_w hL.disk (Kept.can2 hk (by omega)) n (Jr.frame p) (by omega) (by omega)) ?_
      rintro _ H2 ⟨rfl, S2, hd2, hs2⟩
      have hk2 := (Jm.ka hk n (Jr.frame p)).1
      obtain ⟨hL2, hs2⟩ := hL.step hd2 hs2
      have hl2 := hL2.hl
      rw [hbad] at hl2
      generalize Dr.append r n (Jr.frame p) = x at *
      by_cases h0 : x.2 = 0
      · rw [if_neg (show ¬ x.2 ≠ 0 from fun h => h h0)]
        repeat' first | simp (disch := first | omega | assumption | decide) only [go_sem, hm, hz, ht, hr_, hl2, h0, wdl, bind_some_, map_some_, oneD_fold] | refine ifP_in (fun _ => ?_) fun _ => ?_
        refine rF_use (rsync_w hL2.disk (Kept.can2 hk2 (by omega))) ?_
        rintro _ H3 ⟨rfl, S3, hd3, hs3⟩
        obtain ⟨hL3, hs3⟩ := hL2.step hd3 hs3
        have hl3 := hL3.hl
        rw [hbad] at hl3
        generalize Dr.sync x.1 = q at *
        by_cases h1 : q.2 = 0
        · rw [if_neg (show ¬ q.2 ≠ 0 from fun h => h h1)]
          repeat' first | simp (disch := first | omega | assumption | decide) only [go_sem, hm, hz, ht, hr_, hl3, h1, wdl, bind_some_, map_some_, oneD_fold] | refine ifP_in (fun _ => ?_) fun _ => ?_
          refine rF_use (rCopy_w p (by omega)) ?_
          rintro _ H4 ⟨rfl, rfl⟩
          repeat' first | simp (disch := first | omega | assumption | decide) only [go_sem, hm, hz, ht, hr_, hl3, wdl, bind_some_, map_some_, oneD_fold] | refine ifP_in (fun _ => ?_) fun _ => ?_
          refine bind_appendS (f := AV.bytes) (ys := [p]) hL3.recs (by omega) rfl (by simp) (by simp; omega) ?_
          intro a' H5 hp5 hs5 hl5
          have hjl3 : jl < H4.length := (List.getElem?_eq_some_iff.1 hl3).1
          have hl5' : H5[jl]? = some [.ptr j 0, AV.str n, pr, .b false] := by rw [hs5 jl hjl3 hL3.jt]; exact hl3
          have hst : ∀ o cs, storeC Tryz.prog 39 H5 jl o a' cs = storeS H5 jl o a' cs := fun o cs => storeC_one hp5.one.1 hp5.one.2
          repeat' first | simp (disch := first | omega | assumption | decide) only [go_sem, hm, hz, ht, hr_, hl5', hst, wdl, bind_some_, map_some_, oneD_fold] | refine ifP_in (fun _ => ?_) fun _ => ?_
          refine ⟨Or.inl (by decide +kernel), ?_⟩
          repeat' first | simp (disch := first | omega | assumption | decide) only [go_sem, hm, hz, ht, hr_, hl5', hst, h1, wdl, bind_some_, map_some_, oneD_fold] | refine ifP_in (fun _ => ?_) fun _ => ?_
          have hdl := hL3.disk.lt
          have hL5 := hL3.recs_set (H' := H5) (pr' := a') (rs := l.recs ++ [p]) hl5 hs5 hp5 (by intro x hx; obtain rfl := List.mem_singleton.1 hx; exact ⟨by omega, fun hm => by have := hdl _ hm; omega⟩)
          have hs6 := hL3.step_set (H' := H5) (tp' := [H4.length]) (cs := [.ptr j 0, AV.str n, a', .b l.bad]) hl5 hs5 (by simp)
          rw [hbad] at hL5 hs6
          exact ⟨_, ⟨a', _, S3, hL5, rfl⟩, (hs2.trans hs3).trans hs6⟩
        · rw [if_pos h1]
          repeat' first | simp (disch := first | omega | assumption | decide) only [go_sem, hm, hz, ht, hr_, hl3, h1, wdl, bind_some_, map_some_, oneD_fold] | refine ifP_in (fun _ => ?_) fun _ => ?_
          obtain ⟨hL4, hs4⟩ := hL3.put true
          exact ⟨_, ⟨pr, tp, S3, hL4, rfl⟩, (hs2.trans hs3).trans hs4⟩
      · rw [if_pos h0]
        repeat' first | simp (disch := first | omega | assumption | decide) only [go_sem, hm, hz, ht, hr_, hl2, h0, wdl, bind_some_, map_some_, oneD_fold] | refine ifP_in (fun _ => ?_) fun _ => ?_
        exact ⟨_, ⟨pr, tp, S2, hL2, rfl⟩, hs2⟩
end Jn
end Go.Proofs
/- Walks: the document's log is renewed. -/
set_option linter.unusedVariables false
set_option linter.unusedSimpArgs false
namespace Go.Proofs
open Go.Lv
namespace Jn
open Dk (Files Bs Ch Ev)
open Dl (Kept)
variable {H : Heap}

theorem buildT_nil {H : Heap} : buildT Tryz.prog H 39 0 [] = some (.ow [] 0, H) := by
  have h1 : (buildSliceA Tryz.prog 39 0 []).isSome = true := by kernel_rfl
  obtain ⟨z, hz⟩ := Option.isSome_iff_exists.1 h1
  unfold buildT
  rw [if_pos rfl, hz]; rfl
theorem rlrenew_w {jl j : Nat} {S : List Nat} {n : Bs} {l : Jl.Log} {s r : Dk.Disk} {c : Int} (h : RogAt H jl j S n l r) (hk : Kept c s r) (hc : c ≤ 990) (hn : n.length ≤ 100000) (ps : List Bs) (hpl : ps.length ≤ 2147483648) (hf : (Jr.frames ps).length ≤ 2147483648) (hps : ∀ p ∈ ps, p.length ≤ 2147483648) :
    WF Tryz.prog cfg 13 [.ptr jl 0, .sl (ps.map AV.bytes)] H (fun v H' => v = .i (Jm.renew r n l ps).2.2 ∧ ∃ S', RogAt H' jl j S' n (Jm.renew r n l ps).2.1 (Jm.renew r n l ps).1 ∧ Step H S H' S') := by
  obtain ⟨pr, tp, Sd, hL, rfl⟩ := h
  have hl := hL.hl
  have hfl : (Jl.fresh n).length = n.length + 4 := by simp [Jl.fresh]
  have hfn : ∀ {P : Program} {xt : TypeId}, bin P .add xt (AV.str n) (AV.str [46, 110, 101, 119]) = some (AV.str (Jl.fresh n)) := by
    intro P xt
    have : (([46, 110, 101, 119] : List UInt8).length : Int) = 4 := rfl
    unfold Jl.fresh
    simp (disch := omega) only [go_sem]
  have hm : ∀ d, cfg.muF 13 d = (false) := fun _ => rfl
  have hz : ∀ d, cfg.fzF 13 d = (false) := fun _ => rfl
  have ht : ∀ d, cfg.tkF 13 d = (d == 93 || d == 95) := fun _ => rfl
  have hr_ : ∀ g, cfg.raw g = (g == 68) := fun _ => rfl
  refine rF_fn rfl rfl Tryz.func13 rfl ?_
  unfold Jm.renew
  cases hbad : l.bad with
  | true =>
    rw [if_pos rfl]
    rw [hbad] at hl
    repeat' first | simp (disch := first | omega | assumption | decide) only [go_sem, hm, hz, ht, hr_, hl, wdl, bind_some_, map_some_, oneD_fold] | refine ifP_in (fun _ => ?_) fun _ => ?_
    exact ⟨_, ⟨pr, tp, Sd, hL, rfl⟩, Step.refl _ _⟩
  | false =>
    rw [if_neg (by simp)]
    rw [hbad] at hl
    have hfit : ps.all (fun p => decide (p.length ≤ 60000)) = fits ps := rfl
    rw [hfit]
    repeat' first | simp (disch := first | omega | assumption | decide) only [go_sem, hm, hz, ht, hr_, hl, wdl, bind_some_, map_some_, oneD_fold] | refine ifP_in (fun _ => ?_) fun _ => ?_
    refine rL_loop (σ := Nat) (fun i e K => K = H ∧ e 0 = .ptr jl 0 ∧ e 1 = .sl (ps.map AV.bytes) ∧ e 6 = .i i ∧ i ≤ ps.length ∧ e 5 = .sl ((Jr.frames (ps.take i)).map byteA) ∧ fits (ps.take i) = true) (fun i => ps.length - i) 0 ?_ ?_
    · refine ⟨rfl, ?_, ?_, ?_, by omega, ?_, rfl⟩
      all_goals first | (simp (disch := first | assumption | omega) only [go_sem]; done) | (simp (disch := first | assumption | omega) only [go_sem]; rfl) | (simp (disch := first | assumption | omega) only [go_sem, ht]; done) | (simp (disch := first | assumption | omega) only [go_sem, ht]; rfl)
    · rintro i e K ⟨hK, g0, g1, g6, i1, g5, i2⟩
      have hK := hK.symm
      subst hK
      by_cases hi : i < ps.length
      · have hix := ixg hi
        have hsn := Jr.frames_snoc ps i hi
        have hfl2 := Jr.frame_len ps[i]
        have hsp := Jr.frames_split ps (i + 1)
        have htot : (Jr.frames (ps.take (i + 1))).length ≤ (Jr.frames ps).length := by rw [hsp, List.length_append]; omega
        rw [hsn, List.length_append] at htot
        have hfs : fits (ps.take (i + 1)) = (fits (ps.take i) && decide ((ps[i]).length ≤ 60000)) := by unfold fits; rw [List.take_succ_eq_append_getElem hi, List.all_append]; simp
        repeat' first | simp (disch := first | omega | assumption | decide) only [go_sem, hm, hz, ht, hr_, g0, g1, g5, g6, hix, cells_by, wdl, bind_some_, map_some_, oneD_fold] | refine ifP_in (fun _ => ?_) fun _ => ?_
        refine rF_use (rFrame_w ps[i] (by have := hps _ (List.getElem_mem hi); omega)) ?_
        rintro _ K1 ⟨rfl, rfl⟩
        by_cases hb : 60000 < (ps[i]).length
        · rw [if_pos hb]
          have hff : fits ps = false := by
            unfold fits
            rw [List.all_eq_false]
            exact ⟨ps[i], List.getElem_mem hi, by simp; omega⟩
          rw [if_pos hff]
          repeat' first | simp (disch := first | omega | assumption | decide) only [go_sem, hm, hz, ht, hr_, g0, g1, g5, g6, wdl, bind_some_, map_some_, oneD_fold] | refine ifP_in (fun _ => ?_) fun _ => ?_
          exact ⟨_, ⟨pr, tp, Sd, hL, rfl⟩, Step.refl _ _⟩
        · rw [if_neg hb]
          repeat' first | simp (disch := first | omega | assumption | decide) only [go_sem, hm, hz, ht, hr_, g0, g1, g5, g6, wdl, bind_some_, map_some_, oneD_fold] | refine ifP_in (fun _ => ?_) fun _ => ?_
          refine ⟨i + 1, ⟨rfl, by omega, ?_, ?_⟩, by omega⟩
          · rw [hsn]
          · rw [hfs, i2, decide_eq_true (by omega)]; rfl
      · have : i = ps.length := by omega
        subst this
        rw [List.take_length] at g5 i2
        rw [if_neg (by rw [i2]; simp)]
        repeat' first | simp (disch := first | omega | assumption | decide) only [go_sem, hm, hz, ht, hr_, g0, g1, g5, g6, hl, hfn, wdl, bind_some_, map_some_, oneD_fold] | refine ifP_in (fun _ => ?_) fun _ => ?_
        refine rF_use (rwrite_w hL.disk (Kept.can2 hk (by omega)) (Jl.fresh n) (Jr.frames ps) (by omega) (by omega)) ?_
        rintro _ H2 ⟨rfl, S2, hd2, hs2⟩
        have hk2 := (Jm.kw hk (Jl.fresh n) (Jr.frames ps)).1
        obtain ⟨hL2, hs2⟩ := hL.step hd2 hs2
        have hl2 := hL2.hl
        rw [hbad] at hl2
        generalize Dr.write r (Jl.fresh n) (Jr.frames ps) = w at *
        by_cases h0 : w.2 = 0
        · have ht1 : Jl.then_ w Dr.sync = Dr.sync w.1 := by unfold Jl.then_; rw [if_pos h0]
          rw [ht1]
          repeat' first | simp (disch := first | omega | assumption | decide) only [go_sem, hm, hz, ht, hr_, g0, g1, hl2, h0, wdl, bind_some_, map_some_, oneD_fold] | refine ifP_in (fun _ => ?_) fun _ => ?_
          refine rF_use (rsync_w hL2.disk (Kept.can2 hk2 (by omega))) ?_
          rintro _ H3 ⟨rfl, S3, hd3, hs3⟩
          have hk3 := (Jm.ks hk2).1
          obtain ⟨hL3, hs3⟩ := hL2.step hd3 hs3
          have hl3 := hL3.hl
          rw [hbad] at hl3
          have hs13 := hs2.trans hs3
          generalize Dr.sync w.1 = q at *
          by_cases h1 : q.2 = 0
          · rw [if_neg (show ¬ q.2 ≠ 0 from fun h => h h1)]
            repeat' first | simp (disch := first | omega | assumption | decide) only [go_sem, hm, hz, ht, hr_, g0, g1, hl3, h1, hfn, wdl, bind_some_, map_some_, oneD_fold] | refine ifP_in (fun _ => ?_) fun _ => ?_
            refine rF_use (rrename_w hL3.disk (Kept.can2 hk3 (by omega)) (Jl.fresh n) n (by omega) (by omega)) ?_
            rintro _ H4 ⟨rfl, S4, hd4, hs4⟩
            have hk4 := (Jm.kn hk3 (Jl.fresh n) n).1
            obtain ⟨hL4, hs4⟩ := hL3.step hd4 hs4
            have hl4 := hL4.hl
            rw [hbad] at hl4
            have hs14 := hs13.trans hs4
            generalize Dr.rename q.1 (Jl.fresh n) n = v at *
            by_cases h2 : v.2 = 0
            · have ht2 : Jl.then_ v Dr.sync = Dr.sync v.1 := by unfold Jl.then_; rw [if_pos h2]
              rw [ht2]
              repeat' first | simp (disch := first | omega | assumption | decide) only [go_sem, hm, hz, ht, hr_, g0, g1, hl4, h2, wdl, bind_some_, map_some_, oneD_fold] | refine ifP_in (fun _ => ?_) fun _ => ?_
              refine rF_use (rsync_w hL4.disk (Kept.can2 hk4 (by omega))) ?_
              rintro _ H5 ⟨rfl, S5, hd5, hs5⟩
              obtain ⟨hL5, hs5⟩ := hL4.step hd5 hs5
              have hl5 := hL5.hl
              rw [hbad] at hl5
              have hs15 := hs14.trans hs5
              generalize Dr.sync v.1 = u at *
              by_cases h3 : u.2 = 0
              · rw [if_neg (show ¬ u.2 ≠ 0 from fun h => h h3)]
                repeat' first | simp (disch := first | omega | assumption | decide) only [go_sem, hm, hz, ht, hr_, g0, g1, hl5, h3, wdl, bind_some_, map_some_, oneD_fold] | refine ifP_in (fun _ => ?_) fun _ => ?_
                rw [buildT_nil, bindP_some]
                repeat' first | simp (disch := first | omega | assumption | decide) only [go_sem, hm, hz, ht, hr_, g0, g1, hl5, h3, wdl, bind_some_, map_some_, oneD_fold] | refine ifP_in (fun _ => ?_) fun _ => ?_
                refine bind_append0 (f := AV.bytes) (by omega) rfl (by omega) ?_
                intro a' H6 tp' hp6 hpre6 hnew6
                have g6 : ∀ x, x < H5.length → H6[x]? = H5[x]? := fun x hx => by
                  obtain ⟨G, rfl⟩ := hpre6
                  exact List.getElem?_append_left hx
                have hjl5 : jl < H5.length := (List.getElem?_eq_some_iff.1 hl5).1
                have hl6 : H6[jl]? = some [.ptr j 0, AV.str n, pr, .b false] := by rw [g6 jl hjl5]; exact hl5
                have hst : ∀ o cs, storeC Tryz.prog 39 H6 jl o a' cs = storeS H6 jl o a' cs := fun o cs => storeC_one hp6.one.1 hp6.one.2
                repeat' first | simp (disch := first | omega | assumption | decide) only [go_sem, hm, hz, ht, hr_, g0, g1, hl6, hst, h3, wdl, bind_some_, map_some_, oneD_fold] | refine ifP_in (fun _ => ?_) fun _ => ?_
                have hdl := hL5.disk.lt
                have hL7 := hL5.recs_set (H' := H6) (pr' := a') (rs := ps) (pre_len hpre6) (fun x hx _ => g6 x hx) hp6 (by intro x hx; have := hnew6 x hx; exact ⟨by omega, fun hm => by have := hdl _ hm; omega⟩)
                have hs7 := hL5.step_set (H' := H6) (tp' := tp') (cs := [.ptr j 0, AV.str n, a', .b l.bad]) (pre_len hpre6) (fun x hx _ => g6 x hx) hnew6
                rw [hbad] at hL7 hs7
                exact ⟨_, ⟨a', tp', S5, hL7, rfl⟩, hs15.trans hs7⟩
              · rw [if_pos h3]
                repeat' first | simp (disch := first | omega | assumption | decide) only [go_sem, hm, hz, ht, hr_, g0, g1, hl5, h3, wdl, bind_some_, map_some_, oneD_fold] | refine ifP_in (fun _ => ?_) fun _ => ?_
                obtain ⟨hL6, hs6⟩ := hL5.put true
                exact ⟨_, ⟨pr, tp, S5, hL6, rfl⟩, hs15.trans hs6⟩
            · have ht2 : Jl.then_ v Dr.sync = v := by unfold Jl.then_; rw [if_neg h2]
              rw [ht2, if_pos h2]
              repeat' first | simp (disch := first | omega | assumption | decide) only [go_sem, hm, hz, ht, hr_, g0, g1, hl4, h2, wdl, bind_some_, map_some_, oneD_fold] | refine ifP_in (fun _ => ?_) fun _ => ?_
              obtain ⟨hL6, hs6⟩ := hL4.put true
              exact ⟨_, ⟨pr, tp, S4, hL6, rfl⟩, hs14.trans hs6⟩
          · rw [if_pos h1]
            repeat' first | simp (disch := first | omega | assumption | decide) only [go_sem, hm, hz, ht, hr_, g0, g1, hl3, h1, hfn, wdl, bind_some_, map_some_, oneD_fold] | refine ifP_in (fun _ => ?_) fun _ => ?_
            refine rF_use (rdelete_w hL3.disk (Kept.can2 hk3 (by omega)) (Jl.fresh n) (by omega)) ?_
            rintro _ Kd ⟨rfl, Sd', hdd, hsd⟩
            obtain ⟨hLd, hsd⟩ := hL3.step hdd hsd
            have hld := hLd.hl
            rw [hbad] at hld
            repeat' first | simp (disch := first | omega | assumption | decide) only [go_sem, hm, hz, ht, hr_, g0, g1, h1, hld, wdl, bind_some_, map_some_, oneD_fold] | refine ifP_in (fun _ => ?_) fun _ => ?_
            exact ⟨_, ⟨pr, tp, Sd', hLd, rfl⟩, hs13.trans hsd⟩
        · have ht1 : Jl.then_ w Dr.sync = w := by unfold Jl.then_; rw [if_neg h0]
          rw [ht1, if_pos h0]
          repeat' first | simp (disch := first | omega | assumption | decide) only [go_sem, hm, hz, ht, hr_, g0, g1, hl2, h0, hfn, wdl, bind_some_, map_some_, oneD_fold] | refine ifP_in (fun _ => ?_) fun _ => ?_
          refine rF_use (rdelete_w hL2.disk (Kept.can2 hk2 (by omega)) (Jl.fresh n) (by omega)) ?_
          rintro _ Kd ⟨rfl, Sd', hdd, hsd⟩
          obtain ⟨hLd, hsd⟩ := hL2.step hdd hsd
          have hld := hLd.hl
          rw [hbad] at hld
          repeat' first | simp (disch := first | omega | assumption | decide) only [go_sem, hm, hz, ht, hr_, g0, g1, h0, hld, wdl, bind_some_, map_some_, oneD_fold] | refine ifP_in (fun _ => ?_) fun _ => ?_
          exact ⟨_, ⟨pr, tp, Sd', hLd, rfl⟩, hs2.trans hsd⟩
end Jn
end Go.Proofs
/- Walks: the document's log is opened. -/
set_option linter.unusedVariables false
set_option linter.unusedSimpArgs false
namespace Go.Proofs
open Go.Lv
namespace Jn
open Dk (Files Bs Ch Ev)
open Dl (Kept)
variable {H : Heap}

/-- What opening hands out. -/
def Ropened (H H' : Heap) (k : Nat) (T : List Nat) (n : Bs) (o : Dk.Disk × Option Jl.Log × Int) (v : AV) : Prop :=
  (∀ l, o.2.1 = some l → ∃ kl T', H.length ≤ kl ∧ v = .tup [.ptr kl 0, .i o.2.2] ∧ RogAt H' kl k T' n l o.1 ∧ Step H T H' T') ∧
  (o.2.1 = none → ∃ T', v = .tup [.v (.pointer none), .i o.2.2] ∧ RefAt H' k T' o.1 ∧ Step H T H' T')
theorem Ropened.mk_none {H H' : Heap} {k : Nat} {T T' : List Nat} {n : Bs} {s : Dk.Disk} {e : Int} (h1 : RefAt H' k T' s) (h2 : Step H T H' T') : Ropened H H' k T n (s, none, e) (.tup [.v (.pointer none), .i e]) :=
  ⟨fun l h => by (simp only at h; cases h), fun _ => ⟨T', rfl, h1, h2⟩⟩
theorem RogAt.disk {jl j : Nat} {S : List Nat} {n : Bs} {l : Jl.Log} {s : Dk.Disk} (h : RogAt H jl j S n l s) : ∃ Sd, RefAt H j Sd s ∧ ∀ x ∈ Sd, x ∈ S := by
  obtain ⟨pr, tp, Sd, hL, rfl⟩ := h
  exact ⟨Sd, hL.disk, fun x hx => by simp [hx]⟩
theorem Step.rsub {H H' : Heap} {S T T' : List Nat} (h : Step H S H' T) (hs : ∀ x ∈ T', x ∈ T) : Step H S H' T' := ⟨h.len, h.same, fun x hx => h.new x (hs x hx)⟩
/-- The records that were read take their place. -/
theorem RogR.seat {H0 : Heap} {jl j : Nat} {pr a : AV} {tp ta Sd S0 : List Nat} {n : Bs} {l : Jl.Log} {s : Dk.Disk} {rs : List Bs} (h : RogR H jl j pr tp Sd n l s) (ht : TokS AV.bytes 1 H a rs ta) (hn : ∀ x ∈ ta, x ∉ jl :: (tp ++ Sd)) (hs : Step H0 S0 H (jl :: (tp ++ Sd))) (hj : H0.length ≤ jl) (h0 : ∀ x ∈ ta, H0.length ≤ x) :
    RogAt (H.set jl [.ptr j 0, AV.str n, a, .b l.bad]) jl j (jl :: (ta ++ Sd)) n { l with recs := rs } s ∧ Step H0 S0 (H.set jl [.ptr j 0, AV.str n, a, .b l.bad]) (jl :: (ta ++ Sd)) := by
  have hn' : ∀ x ∈ ta, x ≠ jl ∧ x ∉ Sd := fun x hx => by
    have := hn x hx
    simp only [List.mem_cons, List.mem_append, not_or] at this
    exact ⟨this.1, this.2.2⟩
  refine ⟨⟨a, ta, Sd, h.recs_set (H' := H) (Nat.le_refl _) (fun x _ _ => rfl) ht hn', rfl⟩, ⟨by have := hs.len; simpa using this, fun i hi hS => ?_, fun x hx => ?_⟩⟩
  · rw [get_set_ne_ (by omega)]; exact hs.same i hi hS
  · rcases List.mem_cons.1 hx with rfl | hx
    · exact .inr hj
    · rcases List.mem_append.1 hx with hx | hx
      · exact .inr (h0 x hx)
      · exact hs.new x (by simp [hx])
theorem rlopen_w {j : Nat} {S : List Nat} {n : Bs} {s r : Dk.Disk} {c : Int} (hd : RefAt H j S r) (hk : Kept c s r) (hc : c ≤ 980) (hn : n.length ≤ 100000) :
    WF Tryz.prog cfg 9 [.ptr j 0, .str n] H (fun v H' => Ropened H H' j S n (Jm.open_ r n) v) := by
  have hfl : (Jl.fresh n).length = n.length + 4 := by simp [Jl.fresh]
  have hfn : ∀ {P : Program} {xt : TypeId}, bin P .add xt (AV.str n) (AV.str [46, 110, 101, 119]) = some (AV.str (Jl.fresh n)) := by
    intro P xt
    have : (([46, 110, 101, 119] : List UInt8).length : Int) = 4 := rfl
    unfold Jl.fresh
    simp (disch := omega) only [go_sem]
  have hrl : (Dr.read r n).2.1.length ≤ 1073741824 := by
    rw [(Jm.kr hk n).2]; exact Jm.read_len hk.live.two.ok n
  have hbx : ([AV.ptr j 0, AV.str n, nilA, .b false] : List AV).all AV.one = true := rfl
  have hm : ∀ d, cfg.muF 9 d = (false) := fun _ => rfl
  have hz : ∀ d, cfg.fzF 9 d = (false) := fun _ => rfl
  have ht : ∀ d, cfg.tkF 9 d = (false) := fun _ => rfl
  have hr_ : ∀ g, cfg.raw g = (g == 68) := fun _ => rfl
  refine rF_fn rfl rfl Tryz.func9 rfl ?_
  repeat' first | simp (disch := first | omega | assumption | decide) only [go_sem, hm, hz, ht, hr_, wdl, bind_some_, map_some_, oneD_fold] | refine ifP_in (fun _ => ?_) fun _ => ?_
  refine rF_use (rread_w hd (Kept.can2 hk (by omega)) n (by omega)) ?_
  rintro _ H1 ⟨rfl, S1, hd1, hs1⟩
  have hk1 := (Jm.kr hk n).1
  have e1 := @Jm.open_bad r n
  have e2 := @Jm.open_plain r n
  have e3 := @Jm.open_fail r n
  have e4 := @Jm.open_renew r n
  generalize Dr.read r n = x at *
  generalize Jm.open_ r n = o at *
  by_cases hbad : x.2.2 ≠ 0 ∧ x.2.2 ≠ 6
  · rw [e1 hbad]
    obtain ⟨q1, q2⟩ := hbad
    repeat' first | simp (disch := first | omega | assumption | decide) only [go_sem, hm, hz, ht, hr_, q1, q2, wdl, bind_some_, map_some_, oneD_fold] | refine ifP_in (fun _ => ?_) fun _ => ?_
    exact Ropened.mk_none hd1 hs1
  · rcases (show x.2.2 = 0 ∨ x.2.2 = 6 by omega) with q1 | q1
    · repeat' first | simp (disch := first | omega | assumption | decide) only [go_sem, hm, hz, ht, hr_, q1, hbx, wdl, bind_some_, map_some_, oneD_fold] | refine ifP_in (fun _ => ?_) fun _ => ?_
      have hd1l := hd1.lt
      have hs1l := hs1.len
      have hL0 : RogR (H1 ++ [[.ptr j 0, AV.str n, nilA, .b false]]) H1.length j nilA [] S1 n ⟨[], false⟩ x.1 :=
        ⟨get_end_ _, .inl ⟨rfl, rfl, rfl⟩, hd1.grew fun y hy => get_old_ hy, fun h => by have := hd1l _ h; omega, by simp⟩
      have hs2 : Step H S (H1 ++ [[.ptr j 0, AV.str n, nilA, .b false]]) (H1.length :: ([] ++ S1)) := by
        refine ⟨by simp; omega, fun i hi hS => ?_, fun y hy => ?_⟩
        · rw [get_old_ (by omega)]; exact hs1.same i hi hS
        · rcases List.mem_cons.1 hy with rfl | hy
          · exact .inr (by omega)
          · exact hs1.new y (by simpa using hy)
      have hKl : (H1 ++ [[AV.ptr j 0, AV.str n, nilA, .b false]]).length = H1.length + 1 := by simp
      obtain ⟨jl, hjl⟩ : ∃ jl, jl = H1.length := ⟨_, rfl⟩
      rw [← hjl] at hL0 hs2
      have hjl0 : H.length ≤ jl := by omega
      rw [← hjl]
      generalize (H1 ++ [[AV.ptr j 0, AV.str n, nilA, .b false]]) = K at *
      refine rF_use (rScan_w x.2.1 (by omega)) ?_
      rintro _ K2 ⟨a, rfl, ha, hp2⟩
      have g2 : ∀ y, y < K.length → K2[y]? = K[y]? := fun y hy => by
        obtain ⟨G, rfl⟩ := hp2
        exact List.getElem?_append_left hy
      obtain ⟨hL2, hs3⟩ := hL0.step (hL0.disk.grew g2) (Step.grew (pre_len hp2) g2)
      have hsx := hs2.trans hs3
      obtain ⟨ta, ht4, hna⟩ := TokS.of ha
      have hna0 : ∀ y ∈ ta, H.length ≤ y := fun y hy => by have := hna y hy; omega
      have hta4 : ∀ y ∈ ta, y ∉ jl :: ([] ++ S1) := fun y hy hm => by
        have := hna y hy
        rcases List.mem_cons.1 hm with rfl | hm
        · omega
        · have := hd1l y (by simpa using hm); omega
      obtain ⟨se1, se2, se3⟩ := Jr.scan_end x.2.1
      have hslen := Jr.scan_len x.2.1
      have hapl := ha.plain
      generalize Jr.scan x.2.1 = sc at *
      by_cases hend : sc.2 < x.2.1.length
      · have e3 := e3 hbad hend
        have e4 := e4 hbad hend
        repeat' first | simp (disch := first | omega | assumption | decide) only [go_sem, hm, hz, ht, hr_, wdl, bind_some_, map_some_, oneD_fold] | refine ifP_in (fun _ => ?_) fun _ => ?_
        rw [hapl]
        refine rF_use (rlrenew_w ⟨nilA, [], S1, hL2, rfl⟩ hk1 (by omega) hn sc.1 (by omega) (by omega) (fun p hp => by have := se3 p hp; omega)) ?_
        rintro _ K4 ⟨rfl, S4, hLA, hs4⟩
        have hsx := hsx.trans hs4
        have hat0 := fun y (hy : y ∈ ta) => hs4.at_ (ht4.lt y hy).1 (hta4 y hy)
        have ht4 := ht4.same fun y hy => (hat0 y hy).1
        have hta4 : ∀ y ∈ ta, y ∉ S4 := fun y hy => (hat0 y hy).2
        have hk4 := (Jm.renew_ok hk1 n ⟨[], false⟩ ⟨[], false⟩ rfl sc.1).1
        generalize Jm.renew x.1 n ⟨[], false⟩ sc.1 = v at *
        generalize Jl.renew _ n ⟨[], false⟩ sc.1 = v' at hk4
        by_cases hv : v.2.2 = 0
        · rw [e4 hv]
          unfold Jm.openTail
          repeat' first | simp (disch := first | omega | assumption | decide) only [go_sem, hm, hz, ht, hr_, hv, hfn, wdl, bind_some_, map_some_, oneD_fold] | refine ifP_in (fun _ => ?_) fun _ => ?_
          obtain ⟨pr, tp, Sd, hLx, hSx⟩ := hLA
          rw [hSx] at hsx hta4
          refine rF_use (rdelete_w hLx.disk (Kept.can2 hk4 (by omega)) (Jl.fresh n) (by omega)) ?_
          rintro _ K5 ⟨rfl, Sd', hdd, hsd⟩
          obtain ⟨hLd, hsd⟩ := hLx.step hdd hsd
          have hsall := hsx.trans hsd
          have hat := fun x (hx : x ∈ ta) => hsd.at_ (ht4.lt x hx).1 (hta4 x hx)
          have ht5 := ht4.same fun x hx => (hat x hx).1
          have hld := hLd.hl
          have hst : ∀ o cs, storeC Tryz.prog 39 K5 jl o a cs = storeS K5 jl o a cs := fun o cs => storeC_one ht5.one.1 ht5.one.2
          obtain ⟨hfin1, hfin2⟩ := hLd.seat ht5 (fun x hx => (hat x hx).2) hsall hjl0 hna0
          generalize Dr.delete _ (Jl.fresh n) = dl at *
          by_cases hb : dl.2 ≠ 0 ∧ dl.2 ≠ 6
          · rw [if_pos hb]
            obtain ⟨u1, u2⟩ := hb
            repeat' first | simp (disch := first | omega | assumption | decide) only [go_sem, hm, hz, ht, hr_, u1, u2, wdl, bind_some_, map_some_, oneD_fold] | refine ifP_in (fun _ => ?_) fun _ => ?_
            exact Ropened.mk_none hLd.disk (hsall.rsub (fun x hx => by simp [hx]))
          · rw [if_neg hb]
            rcases (show dl.2 = 0 ∨ dl.2 = 6 by omega) with u1 | u1
            · repeat' first | simp (disch := first | omega | assumption | decide) only [go_sem, hm, hz, ht, hr_, u1, hld, hst, wdl, bind_some_, map_some_, oneD_fold] | refine ifP_in (fun _ => ?_) fun _ => ?_
              exact ⟨fun l' h => by (injection h with h; subst h; exact ⟨jl, _, by omega, rfl, hfin1, hfin2⟩), fun h => by cases h⟩
            · have u2 : (6 : Int) ≠ 0 := by decide
              repeat' first | simp (disch := first | omega | assumption | decide) only [go_sem, hm, hz, ht, hr_, u1, hld, hst, wdl, bind_some_, map_some_, oneD_fold] | refine ifP_in (fun _ => ?_) fun _ => ?_
              exact ⟨fun l' h => by (injection h with h; subst h; exact ⟨jl, _, by omega, rfl, hfin1, hfin2⟩), fun h => by cases h⟩
        · rw [e3 hv]
          obtain ⟨Sd, hdv, hsub⟩ := hLA.disk
          repeat' first | simp (disch := first | omega | assumption | decide) only [go_sem, hm, hz, ht, hr_, hv, wdl, bind_some_, map_some_, oneD_fold] | refine ifP_in (fun _ => ?_) fun _ => ?_
          exact Ropened.mk_none hdv (hsx.rsub hsub)
      · rw [e2 hbad hend]
        unfold Jm.openTail
        have hLA : RogAt K2 jl j (jl :: ([] ++ S1)) n ⟨[], false⟩ x.1 := ⟨nilA, [], S1, hL2, rfl⟩
        have hk4 := hk1
        generalize (jl :: ([] ++ S1)) = S4 at *
        repeat' first | simp (disch := first | omega | assumption | decide) only [go_sem, hm, hz, ht, hr_, hfn, wdl, bind_some_, map_some_, oneD_fold] | refine ifP_in (fun _ => ?_) fun _ => ?_
        obtain ⟨pr, tp, Sd, hLx, hSx⟩ := hLA
        rw [hSx] at hsx hta4
        refine rF_use (rdelete_w hLx.disk (Kept.can2 hk4 (by omega)) (Jl.fresh n) (by omega)) ?_
        rintro _ K5 ⟨rfl, Sd', hdd, hsd⟩
        obtain ⟨hLd, hsd⟩ := hLx.step hdd hsd
        have hsall := hsx.trans hsd
        have hat := fun x (hx : x ∈ ta) => hsd.at_ (ht4.lt x hx).1 (hta4 x hx)
        have ht5 := ht4.same fun x hx => (hat x hx).1
        have hld := hLd.hl
        have hst : ∀ o cs, storeC Tryz.prog 39 K5 jl o a cs = storeS K5 jl o a cs := fun o cs => storeC_one ht5.one.1 ht5.one.2
        obtain ⟨hfin1, hfin2⟩ := hLd.seat ht5 (fun x hx => (hat x hx).2) hsall hjl0 hna0
        generalize Dr.delete _ (Jl.fresh n) = dl at *
        by_cases hb : dl.2 ≠ 0 ∧ dl.2 ≠ 6
        · rw [if_pos hb]
          obtain ⟨u1, u2⟩ := hb
          repeat' first | simp (disch := first | omega | assumption | decide) only [go_sem, hm, hz, ht, hr_, u1, u2, wdl, bind_some_, map_some_, oneD_fold] | refine ifP_in (fun _ => ?_) fun _ => ?_
          exact Ropened.mk_none hLd.disk (hsall.rsub (fun x hx => by simp [hx]))
        · rw [if_neg hb]
          rcases (show dl.2 = 0 ∨ dl.2 = 6 by omega) with u1 | u1
          · repeat' first | simp (disch := first | omega | assumption | decide) only [go_sem, hm, hz, ht, hr_, u1, hld, hst, wdl, bind_some_, map_some_, oneD_fold] | refine ifP_in (fun _ => ?_) fun _ => ?_
            exact ⟨fun l' h => by (injection h with h; subst h; exact ⟨jl, _, by omega, rfl, hfin1, hfin2⟩), fun h => by cases h⟩
          · have u2 : (6 : Int) ≠ 0 := by decide
            repeat' first | simp (disch := first | omega | assumption | decide) only [go_sem, hm, hz, ht, hr_, u1, hld, hst, wdl, bind_some_, map_some_, oneD_fold] | refine ifP_in (fun _ => ?_) fun _ => ?_
            exact ⟨fun l' h => by (injection h with h; subst h; exact ⟨jl, _, by omega, rfl, hfin1, hfin2⟩), fun h => by cases h⟩
    · have q2 : (6 : Int) ≠ 0 := by decide
      repeat' first | simp (disch := first | omega | assumption | decide) only [go_sem, hm, hz, ht, hr_, q1, hbx, wdl, bind_some_, map_some_, oneD_fold] | refine ifP_in (fun _ => ?_) fun _ => ?_
      have hd1l := hd1.lt
      have hs1l := hs1.len
      have hL0 : RogR (H1 ++ [[.ptr j 0, AV.str n, nilA, .b false]]) H1.length j nilA [] S1 n ⟨[], false⟩ x.1 :=
        ⟨get_end_ _, .inl ⟨rfl, rfl, rfl⟩, hd1.grew fun y hy => get_old_ hy, fun h => by have := hd1l _ h; omega, by simp⟩
      have hs2 : Step H S (H1 ++ [[.ptr j 0, AV.str n, nilA, .b false]]) (H1.length :: ([] ++ S1)) := by
        refine ⟨by simp; omega, fun i hi hS => ?_, fun y hy => ?_⟩
        · rw [get_old_ (by omega)]; exact hs1.same i hi hS
        · rcases List.mem_cons.1 hy with rfl | hy
          · exact .inr (by omega)
          · exact hs1.new y (by simpa using hy)
      have hKl : (H1 ++ [[AV.ptr j 0, AV.str n, nilA, .b false]]).length = H1.length + 1 := by simp
      obtain ⟨jl, hjl⟩ : ∃ jl, jl = H1.length := ⟨_, rfl⟩
      rw [← hjl] at hL0 hs2
      have hjl0 : H.length ≤ jl := by omega
      rw [← hjl]
      generalize (H1 ++ [[AV.ptr j 0, AV.str n, nilA, .b false]]) = K at *
      refine rF_use (rScan_w x.2.1 (by omega)) ?_
      rintro _ K2 ⟨a, rfl, ha, hp2⟩
      have g2 : ∀ y, y < K.length → K2[y]? = K[y]? := fun y hy => by
        obtain ⟨G, rfl⟩ := hp2
        exact List.getElem?_append_left hy
      obtain ⟨hL2, hs3⟩ := hL0.step (hL0.disk.grew g2) (Step.grew (pre_len hp2) g2)
      have hsx := hs2.trans hs3
      obtain ⟨ta, ht4, hna⟩ := TokS.of ha
      have hna0 : ∀ y ∈ ta, H.length ≤ y := fun y hy => by have := hna y hy; omega
      have hta4 : ∀ y ∈ ta, y ∉ jl :: ([] ++ S1) := fun y hy hm => by
        have := hna y hy
        rcases List.mem_cons.1 hm with rfl | hm
        · omega
        · have := hd1l y (by simpa using hm); omega
      obtain ⟨se1, se2, se3⟩ := Jr.scan_end x.2.1
      have hslen := Jr.scan_len x.2.1
      have hapl := ha.plain
      generalize Jr.scan x.2.1 = sc at *
      by_cases hend : sc.2 < x.2.1.length
      · have e3 := e3 hbad hend
        have e4 := e4 hbad hend
        repeat' first | simp (disch := first | omega | assumption | decide) only [go_sem, hm, hz, ht, hr_, wdl, bind_some_, map_some_, oneD_fold] | refine ifP_in (fun _ => ?_) fun _ => ?_
        rw [hapl]
        refine rF_use (rlrenew_w ⟨nilA, [], S1, hL2, rfl⟩ hk1 (by omega) hn sc.1 (by omega) (by omega) (fun p hp => by have := se3 p hp; omega)) ?_
        rintro _ K4 ⟨rfl, S4, hLA, hs4⟩
        have hsx := hsx.trans hs4
        have hat0 := fun y (hy : y ∈ ta) => hs4.at_ (ht4.lt y hy).1 (hta4 y hy)
        have ht4 := ht4.same fun y hy => (hat0 y hy).1
        have hta4 : ∀ y ∈ ta, y ∉ S4 := fun y hy => (hat0 y hy).2
        have hk4 := (Jm.renew_ok hk1 n ⟨[], false⟩ ⟨[], false⟩ rfl sc.1).1
        generalize Jm.renew x.1 n ⟨[], false⟩ sc.1 = v at *
        generalize Jl.renew _ n ⟨[], false⟩ sc.1 = v' at hk4
        by_cases hv : v.2.2 = 0
        · rw [e4 hv]
          unfold Jm.openTail
          repeat' first | simp (disch := first | omega | assumption | decide) only [go_sem, hm, hz, ht, hr_, hv, hfn, wdl, bind_some_, map_some_, oneD_fold] | refine ifP_in (fun _ => ?_) fun _ => ?_
          obtain ⟨pr, tp, Sd, hLx, hSx⟩ := hLA
          rw [hSx] at hsx hta4
          refine rF_use (rdelete_w hLx.disk (Kept.can2 hk4 (by omega)) (Jl.fresh n) (by omega)) ?_
          rintro _ K5 ⟨rfl, Sd', hdd, hsd⟩
          obtain ⟨hLd, hsd⟩ := hLx.step hdd hsd
          have hsall := hsx.trans hsd
          have hat := fun x (hx : x ∈ ta) => hsd.at_ (ht4.lt x hx).1 (hta4 x hx)
          have ht5 := ht4.same fun x hx => (hat x hx).1
          have hld := hLd.hl
          have hst : ∀ o cs, storeC Tryz.prog 39 K5 jl o a cs = storeS K5 jl o a cs := fun o cs => storeC_one ht5.one.1 ht5.one.2
          obtain ⟨hfin1, hfin2⟩ := hLd.seat ht5 (fun x hx => (hat x hx).2) hsall hjl0 hna0
          generalize Dr.delete _ (Jl.fresh n) = dl at *
          by_cases hb : dl.2 ≠ 0 ∧ dl.2 ≠ 6
          · rw [if_pos hb]
            obtain ⟨u1, u2⟩ := hb
            repeat' first | simp (disch := first | omega | assumption | decide) only [go_sem, hm, hz, ht, hr_, u1, u2, wdl, bind_some_, map_some_, oneD_fold] | refine ifP_in (fun _ => ?_) fun _ => ?_
            exact Ropened.mk_none hLd.disk (hsall.rsub (fun x hx => by simp [hx]))
          · rw [if_neg hb]
            rcases (show dl.2 = 0 ∨ dl.2 = 6 by omega) with u1 | u1
            · repeat' first | simp (disch := first | omega | assumption | decide) only [go_sem, hm, hz, ht, hr_, u1, hld, hst, wdl, bind_some_, map_some_, oneD_fold] | refine ifP_in (fun _ => ?_) fun _ => ?_
              exact ⟨fun l' h => by (injection h with h; subst h; exact ⟨jl, _, by omega, rfl, hfin1, hfin2⟩), fun h => by cases h⟩
            · have u2 : (6 : Int) ≠ 0 := by decide
              repeat' first | simp (disch := first | omega | assumption | decide) only [go_sem, hm, hz, ht, hr_, u1, hld, hst, wdl, bind_some_, map_some_, oneD_fold] | refine ifP_in (fun _ => ?_) fun _ => ?_
              exact ⟨fun l' h => by (injection h with h; subst h; exact ⟨jl, _, by omega, rfl, hfin1, hfin2⟩), fun h => by cases h⟩
        · rw [e3 hv]
          obtain ⟨Sd, hdv, hsub⟩ := hLA.disk
          repeat' first | simp (disch := first | omega | assumption | decide) only [go_sem, hm, hz, ht, hr_, hv, wdl, bind_some_, map_some_, oneD_fold] | refine ifP_in (fun _ => ?_) fun _ => ?_
          exact Ropened.mk_none hdv (hsx.rsub hsub)
      · rw [e2 hbad hend]
        unfold Jm.openTail
        have hLA : RogAt K2 jl j (jl :: ([] ++ S1)) n ⟨[], false⟩ x.1 := ⟨nilA, [], S1, hL2, rfl⟩
        have hk4 := hk1
        generalize (jl :: ([] ++ S1)) = S4 at *
        repeat' first | simp (disch := first | omega | assumption | decide) only [go_sem, hm, hz, ht, hr_, hfn, wdl, bind_some_, map_some_, oneD_fold] | refine ifP_in (fun _ => ?_) fun _ => ?_
        obtain ⟨pr, tp, Sd, hLx, hSx⟩ := hLA
        rw [hSx] at hsx hta4
        refine rF_use (rdelete_w hLx.disk (Kept.can2 hk4 (by omega)) (Jl.fresh n) (by omega)) ?_
        rintro _ K5 ⟨rfl, Sd', hdd, hsd⟩
        obtain ⟨hLd, hsd⟩ := hLx.step hdd hsd
        have hsall := hsx.trans hsd
        have hat := fun x (hx : x ∈ ta) => hsd.at_ (ht4.lt x hx).1 (hta4 x hx)
        have ht5 := ht4.same fun x hx => (hat x hx).1
        have hld := hLd.hl
        have hst : ∀ o cs, storeC Tryz.prog 39 K5 jl o a cs = storeS K5 jl o a cs := fun o cs => storeC_one ht5.one.1 ht5.one.2
        obtain ⟨hfin1, hfin2⟩ := hLd.seat ht5 (fun x hx => (hat x hx).2) hsall hjl0 hna0
        generalize Dr.delete _ (Jl.fresh n) = dl at *
        by_cases hb : dl.2 ≠ 0 ∧ dl.2 ≠ 6
        · rw [if_pos hb]
          obtain ⟨u1, u2⟩ := hb
          repeat' first | simp (disch := first | omega | assumption | decide) only [go_sem, hm, hz, ht, hr_, u1, u2, wdl, bind_some_, map_some_, oneD_fold] | refine ifP_in (fun _ => ?_) fun _ => ?_
          exact Ropened.mk_none hLd.disk (hsall.rsub (fun x hx => by simp [hx]))
        · rw [if_neg hb]
          rcases (show dl.2 = 0 ∨ dl.2 = 6 by omega) with u1 | u1
          · repeat' first | simp (disch := first | omega | assumption | decide) only [go_sem, hm, hz, ht, hr_, u1, hld, hst, wdl, bind_some_, map_some_, oneD_fold] | refine ifP_in (fun _ => ?_) fun _ => ?_
            exact ⟨fun l' h => by (injection h with h; subst h; exact ⟨jl, _, by omega, rfl, hfin1, hfin2⟩), fun h => by cases h⟩
          · have u2 : (6 : Int) ≠ 0 := by decide
            repeat' first | simp (disch := first | omega | assumption | decide) only [go_sem, hm, hz, ht, hr_, u1, hld, hst, wdl, bind_some_, map_some_, oneD_fold] | refine ifP_in (fun _ => ?_) fun _ => ?_
            exact ⟨fun l' h => by (injection h with h; subst h; exact ⟨jl, _, by omega, rfl, hfin1, hfin2⟩), fun h => by cases h⟩
end Jn
end Go.Proofs
