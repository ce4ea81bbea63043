/- A value semantics of the loaded code, its soundness, and walks through functions over it. -/
import Derived.Test.YtbfcbjmoijiffaaGreatDkSpec
import Derived.Test.YtbfcbjmoijiffaaGreatJrAlldx0
/-! What the log is, in plain Lean. -/
namespace Dk
/-- What stays through any call. -/
structure Keeps (s s' : Disk) : Prop where
  ok : Ok s'
  calls : s'.calls = s.calls + 1
  plan : s'.plan = s.plan
  room : s'.room = s.room
theorem Keeps.call {s : Disk} (h : Ok s) (ns : List Bs) : Keeps s (call s ns).1 :=
  ⟨h.events, (events_calls s).1, (events_calls s).2.1, (events_calls s).2.2⟩
theorem Keeps.does {s r : Disk} (h : Keeps s r) (c : Ch) (hp : (r.pend.length : Int) ≤ s.calls) (hu : used (make r.now c) ≤ Len) (hn : ¬ (c.puts = true ∨ c.behind = true) → c.data = []) : Keeps s (Dk.does r c) :=
  ⟨h.ok.does c (by have := h.calls; omega) hu hn, h.calls, h.plan, h.room⟩
theorem call_pend {s : Disk} (h : Ok s) (ns : List Bs) : ((call s ns).1.pend.length : Int) ≤ s.calls := events_pend s h
theorem Keeps.lay {s r : Disk} (h : Keeps s r) (c : Ch) (more : Int) (full : Bool) (hp : (r.pend.length : Int) ≤ s.calls) (hpb : c.puts = true ∨ c.behind = true) (hm : (used (make r.now c) : Int) ≤ used r.now + more) : Keeps s (lay r c more full).1 := by
  unfold Dk.lay
  split
  · exact h
  · rename_i hc
    refine h.does c hp ?_ (fun hn => absurd hpb hn)
    have := h.ok.room
    have h2 : ¬ r.room - used r.now < more := fun h' => hc (.inr h')
    unfold Len at *
    omega
theorem Keeps.write {s : Disk} (h : Ok s) (n b : Bs) : Keeps s (write s n b).1 := by
  unfold Dk.write
  have hk := Keeps.call h [n]
  have hp := call_pend h [n]
  generalize Dk.call s [n] = r at *
  simp only
  split
  · exact hk
  · refine hk.lay _ _ _ hp (.inl rfl) ?_
    have := used_set r.1.now n b
    simp only [make, Bool.false_eq_true, if_false, if_true]
    omega
theorem Keeps.append {s : Disk} (h : Ok s) (n b : Bs) : Keeps s (append s n b).1 := by
  unfold Dk.append
  have hk := Keeps.call h [n]
  have hp := call_pend h [n]
  generalize Dk.call s [n] = r at *
  simp only
  split
  · exact hk
  · refine hk.lay _ _ _ hp (.inr rfl) ?_
    have := used_set r.1.now n (data r.1.now n ++ b)
    rw [List.length_append] at this
    simp only [make, if_true]
    omega
theorem Keeps.delete {s : Disk} (h : Ok s) (n : Bs) : Keeps s (delete s n).1 := by
  unfold Dk.delete
  have hk := Keeps.call h [n]
  have hp := call_pend h [n]
  generalize Dk.call s [n] = r at *
  simp only
  split
  · exact hk
  · split
    · exact hk
    · refine hk.does _ hp ?_ (fun _ => rfl)
      have := used_make r.1.now ⟨n, [], [], false, false⟩
      have h2 := hk.ok.used
      simp at this
      omega
theorem Keeps.rename {s : Disk} (h : Ok s) (a b : Bs) : Keeps s (rename s a b).1 := by
  unfold Dk.rename
  have hk := Keeps.call h [a, b]
  have hp := call_pend h [a, b]
  generalize Dk.call s [a, b] = r at *
  simp only
  split
  · exact hk
  · split
    · exact hk
    · split
      · exact hk
      · refine hk.does _ hp ?_ (fun _ => rfl)
        have := used_make r.1.now ⟨b, a, [], false, false⟩
        have h2 := hk.ok.used
        simp at this
        omega
theorem Keeps.sync {s : Disk} (h : Ok s) : Keeps s (sync s).1 := by
  unfold Dk.sync
  have hk := Keeps.call h []
  generalize Dk.call s [] = r at *
  simp only
  split
  · exact hk
  · exact ⟨⟨hk.ok.room, rfl, fun k => by simp; exact hk.ok.used, by simpa using hk.ok.calls, hk.ok.calls, by simp⟩, hk.calls, hk.plan, hk.room⟩
theorem Keeps.read {s : Disk} (h : Ok s) (n : Bs) : Keeps s (read s n).1 := by
  unfold Dk.read
  have hk := Keeps.call h [n]
  generalize Dk.call s [n] = r at *
  simp only
  split
  · exact hk
  · split <;> exact hk
end Dk
namespace Jl
open Dk (Disk Bs)
def fresh (n : Bs) : Bs := n ++ [46, 110, 101, 119]
/-- A log beside its disk: records, whether it is bad. -/
structure Log where
  recs : List Bs
  bad : Bool
def append (s : Disk) (n : Bs) (l : Log) (p : Bs) : Disk × Log × Int :=
  if l.bad = true then (s, l, 10)
  else if 60000 < p.length then (s, l, 3)
  else let r := Dk.append s n (Jr.frame p)
    if r.2 ≠ 0 then (r.1, l, r.2)
    else let q := Dk.sync r.1
      if q.2 ≠ 0 then (q.1, { l with bad := true }, q.2) else (q.1, { l with recs := l.recs ++ [p] }, 0)
def then_ (r : Disk × Int) (f : Disk → Disk × Int) : Disk × Int := if r.2 = 0 then f r.1 else r
def renew (s : Disk) (n : Bs) (l : Log) (ps : List Bs) : Disk × Log × Int :=
  if l.bad = true then (s, l, 10)
  else if ps.all (fun p => decide (p.length ≤ 60000)) = false then (s, l, 3)
  else let q := then_ (Dk.write s (fresh n) (Jr.frames ps)) Dk.sync
    if q.2 ≠ 0 then ((Dk.delete q.1 (fresh n)).1, l, q.2)
    else let v := then_ (Dk.rename q.1 (fresh n) n) Dk.sync
      if v.2 ≠ 0 then (v.1, { l with bad := true }, v.2) else (v.1, { l with recs := ps }, 0)
def open_ (s : Disk) (n : Bs) : Disk × Option Log × Int :=
  let r := Dk.read s n
  if r.2.2 ≠ 0 ∧ r.2.2 ≠ 6 then (r.1, none, r.2.2)
  else let c := Jr.scan r.2.1
    let v := if c.2 < r.2.1.length then renew r.1 n ⟨c.1, false⟩ c.1 else (r.1, ⟨c.1, false⟩, 0)
    if v.2.2 ≠ 0 then (v.1, none, v.2.2)
    else let d := Dk.delete v.1 (fresh n)
      if d.2 ≠ 0 ∧ d.2 ≠ 6 then (d.1, none, d.2) else (d.1, some v.2.1, 0)
def openTail (s : Disk) (n : Bs) (l : Log) : Disk × Option Log × Int :=
  if (Dk.delete s (fresh n)).2 ≠ 0 ∧ (Dk.delete s (fresh n)).2 ≠ 6 then ((Dk.delete s (fresh n)).1, none, (Dk.delete s (fresh n)).2) else ((Dk.delete s (fresh n)).1, some l, 0)
theorem open_bad {s : Disk} {n : Bs} (h : (Dk.read s n).2.2 ≠ 0 ∧ (Dk.read s n).2.2 ≠ 6) : open_ s n = ((Dk.read s n).1, none, (Dk.read s n).2.2) := by
  unfold open_; simp only; rw [if_pos h]
theorem open_plain {s : Disk} {n : Bs} (h : ¬ ((Dk.read s n).2.2 ≠ 0 ∧ (Dk.read s n).2.2 ≠ 6)) (he : ¬ (Jr.scan (Dk.read s n).2.1).2 < (Dk.read s n).2.1.length) : open_ s n = openTail (Dk.read s n).1 n ⟨(Jr.scan (Dk.read s n).2.1).1, false⟩ := by
  unfold open_ openTail; simp only; rw [if_neg h, if_neg he]; simp
theorem open_fail {s : Disk} {n : Bs} (h : ¬ ((Dk.read s n).2.2 ≠ 0 ∧ (Dk.read s n).2.2 ≠ 6)) (he : (Jr.scan (Dk.read s n).2.1).2 < (Dk.read s n).2.1.length)
    (hv : (renew (Dk.read s n).1 n ⟨(Jr.scan (Dk.read s n).2.1).1, false⟩ (Jr.scan (Dk.read s n).2.1).1).2.2 ≠ 0) :
    open_ s n = ((renew (Dk.read s n).1 n ⟨(Jr.scan (Dk.read s n).2.1).1, false⟩ (Jr.scan (Dk.read s n).2.1).1).1, none, (renew (Dk.read s n).1 n ⟨(Jr.scan (Dk.read s n).2.1).1, false⟩ (Jr.scan (Dk.read s n).2.1).1).2.2) := by
  unfold open_; simp only; rw [if_neg h, if_pos he, if_pos hv]
theorem open_renew {s : Disk} {n : Bs} (h : ¬ ((Dk.read s n).2.2 ≠ 0 ∧ (Dk.read s n).2.2 ≠ 6)) (he : (Jr.scan (Dk.read s n).2.1).2 < (Dk.read s n).2.1.length)
    (hv : (renew (Dk.read s n).1 n ⟨(Jr.scan (Dk.read s n).2.1).1, false⟩ (Jr.scan (Dk.read s n).2.1).1).2.2 = 0) :
    open_ s n = openTail (renew (Dk.read s n).1 n ⟨(Jr.scan (Dk.read s n).2.1).1, false⟩ (Jr.scan (Dk.read s n).2.1).1).1 n (renew (Dk.read s n).1 n ⟨(Jr.scan (Dk.read s n).2.1).1, false⟩ (Jr.scan (Dk.read s n).2.1).1).2.1 := by
  unfold open_ openTail; simp only; rw [if_neg h, if_pos he, if_neg (fun h => h hv)]
end Jl
