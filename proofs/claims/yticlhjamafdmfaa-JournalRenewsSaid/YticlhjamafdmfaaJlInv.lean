/- A value semantics of the loaded code, its soundness, and walks through functions over it. -/
import Derived.Test.YticlhjamafdmfaaJlSafe
/-! Through all appends, and to the end. -/
set_option linter.unusedVariables false
set_option linter.unusedSimpArgs false
namespace Jl
open Dk (Disk Bs Files Ch Ev)
structure Inv (l : List Bs) (i : Nat) (ok : List Bs) (last : Bs) (tried : Bool) (lg : Log) (s : Disk) (x : Option Bs) : Prop where
  rest : Rest s x
  okl : ∀ q ∈ ok, q.length ≤ 60000
  len : (Jr.frames ok).length ≤ (Jr.frames (l.take i)).length
  okn : ok.length ≤ i
  recs : lg.recs.length ≤ i
  cont : x.getD [] = Jr.frames ok ∨ (s.down = true ∧ tried = true ∧ last.length ≤ 60000 ∧ ∃ m, x.getD [] = Jr.frames ok ++ (Jr.frame last).take m)
  bad : s.down = false → lg.bad = false
theorem append_more {s : Disk} (h : Dk.Ok s) (n : Bs) (l : Log) (p : Bs) : Dk.Ok (append s n l p).1 ∧ (append s n l p).1.calls ≤ s.calls + 2 ∧ (append s n l p).1.plan = s.plan ∧ (append s n l p).2.1.recs.length ≤ l.recs.length + 1 := by
  unfold append
  split
  · exact ⟨h, by simp only; omega, rfl, by simp⟩
  · split
    · exact ⟨h, by simp only; omega, rfl, by simp⟩
    · have h1 := Dk.Keeps.append h n (Jr.frame p)
      have c1 := h1.calls
      simp only
      split
      · exact ⟨h1.ok, by show (Dk.append s n (Jr.frame p)).1.calls ≤ _; omega, h1.plan, by simp⟩
      · have h2 := Dk.Keeps.sync h1.ok
        have c2 := h2.calls
        split
        · exact ⟨h2.ok, by simp only; omega, h2.plan.trans h1.plan, by simp⟩
        · exact ⟨h2.ok, by simp only; omega, h2.plan.trans h1.plan, by simp⟩
theorem Inv.step {l : List Bs} {i : Nat} {ok : List Bs} {last : Bs} {tried : Bool} {lg : Log} {s : Disk} {x : Option Bs} (h : Inv l i ok last tried lg s x) (hd : s.down = false) (hi : i < l.length) :
    ∃ x', Inv l (i + 1) (if (append s LOG lg l[i]).2.2 = 0 then ok ++ [l[i]] else ok) l[i] (decide ((append s LOG lg l[i]).2.2 ≠ 0)) (append s LOG lg l[i]).2.1 (append s LOG lg l[i]).1 x' := by
  have hc : x.getD [] = Jr.frames ok := by
    rcases h.cont with hc | ⟨hd', _⟩
    · exact hc
    · rw [hd] at hd'; cases hd'
  have hrec := (append_more h.rest.ok LOG lg l[i]).2.2.2
  have hr := h.recs
  have hsn := Jr.frames_snoc l i hi
  have hl := h.len
  have hon := h.okn
  rcases append_law h.rest hd lg (h.bad hd) l[i] with ⟨a1, a2, a3, a4, a5⟩ | ⟨a1, a2, a3⟩ | ⟨a1, a2, a3, m, a4⟩
  · rw [if_pos a1]
    refine ⟨_, ⟨a3, fun q hq => ?_, ?_, by simp; omega, by omega, .inl ?_, fun _ => a5⟩⟩
    · rcases List.mem_append.1 hq with hq | hq
      · exact h.okl q hq
      · simp at hq; subst hq; exact a2
    · have e : (Jr.frames [l[i]]).length = (Jr.frame l[i]).length := by simp [Jr.frames]
      rw [Jr.frames_append, hsn, List.length_append, List.length_append]
      omega
    · simp only [Option.getD_some]
      rw [hc, Jr.frames_append]; simp [Jr.frames]
  · rw [if_neg a1]
    exact ⟨x, ⟨a2, h.okl, by rw [hsn, List.length_append]; omega, by omega, by omega, .inl hc, a3⟩⟩
  · rw [if_neg a1]
    refine ⟨_, ⟨a4, h.okl, by rw [hsn, List.length_append]; omega, by omega, by omega, .inr ⟨a3, by simpa using a1, a2, m, ?_⟩, fun hd' => by rw [a3] at hd'; cases hd'⟩⟩
    simp only [Option.getD_some]
    rw [hc]
/-- The disk as it is opened again. -/
def again (s : Disk) (keep torn : Int) : Disk := { Dk.crash s keep torn with down := false, plan := [], room := 1073741824 }
theorem again_calm {s : Disk} {x : Option Bs} (h : Rest s x) (keep torn : Int) : Calm (again s keep torn) x := by
  have key : ∀ s' : Disk, s'.now = fl x → s'.dur = fl x → s'.pend = [] → Dk.Ok s' → Calm { s' with down := false, plan := [], room := 1073741824 } x := by
    intro s' h1 h2 h3 h4
    exact ⟨⟨by simp [Dk.Len], h4.now, h4.size, h4.pend, h4.calls, h4.nil⟩, rfl, rfl, h3, h1, h2, rfl⟩
  unfold again
  cases hd : s.down with
  | true => rw [crash_down hd]; exact key s h.now h.dur h.pend h.ok
  | false =>
    have hok := h.ok.crash keep torn
    rw [crash_up hd] at hok ⊢
    rw [fallen_rest h] at hok ⊢
    exact key _ rfl rfl rfl hok
theorem again_calls (s : Disk) (keep torn : Int) : (again s keep torn).calls = s.calls := Dk.crash_calls s keep torn
/-- What comes back. -/
theorem Inv.back {l : List Bs} {i : Nat} {ok : List Bs} {last : Bs} {tried : Bool} {lg : Log} {s : Disk} {x : Option Bs} (h : Inv l i ok last tried lg s x) (hl : (Jr.frames (l.take i)).length ≤ 200000) (keep torn : Int) :
    ∃ s1 s2 got, open_ (again s keep torn) LOG = (s1, some ⟨got, false⟩, 0) ∧ open_ s1 LOG = (s2, some ⟨got, false⟩, 0) ∧ (got = ok ∨ (tried = true ∧ got = ok ++ [last])) ∧ got.length ≤ 400000 ∧ (∀ p ∈ got, p.length ≤ 60000) ∧
      (Dk.read (again s keep torn) LOG).2.1.length ≤ 400000 ∧ (Dk.read s1 LOG).2.1.length ≤ 400000 := by
  have hcalm := again_calm h.rest keep torn
  have hx : (x.getD []).length ≤ 400000 := by
    have := h.len
    rcases h.cont with hc | ⟨_, _, hlast, m, hc⟩
    · rw [hc]; omega
    · have hfl := Jr.frame_len last
      rw [hc, List.length_append, List.length_take]; omega
  obtain ⟨s1, x1, h1, h2, h3, h4⟩ := open_calm hcalm hx
  obtain ⟨s2, x2, g1, g2, g3, g4⟩ := open_calm h2 (by omega)
  rw [h3] at g1
  have hr0 := read_calm hcalm
  have hr1 := read_calm h2
  have hsl := Jr.scan_len (x.getD [])
  refine ⟨s1, s2, _, h1, g1, ?_, by omega, (Jr.scan_end (x.getD [])).2.2, by rw [hr0]; exact hx, by rw [hr1]; simp only; omega⟩
  rcases h.cont with hc | ⟨_, ht, hlast, m, hc⟩
  · left
    rw [hc, Jr.scan_all ok h.okl]
  · rw [hc]
    rcases scan_part ok h.okl last hlast m with e | e
    · exact .inl e
    · exact .inr ⟨ht, e⟩
def new0 (room : Int) : Disk := ⟨room, [], [], [], [], 0, false⟩
theorem new_ok {room : Int} (h : 0 ≤ room ∧ room ≤ 1073741824) : Dk.Ok (new0 room) := ⟨by simpa [Dk.Len, new0] using h, rfl, fun k => by simp [new0, Dk.used], by simp [new0], by simp [new0], by simp [new0]⟩
theorem open_new (room : Int) : open_ (new0 room) LOG = ({ new0 room with calls := 2 }, some ⟨[], false⟩, 0) := by rfl
theorem read_new (room : Int) : (Dk.read (new0 room) LOG).2.1 = [] := by rfl
theorem start {room : Int} (h : 0 ≤ room ∧ room ≤ 1073741824) (l : List Bs) (q : List Ev) (hq : ∀ e ∈ q, e.kind ≠ 3) : Inv l 0 [] [] false ⟨[], false⟩ { new0 room with calls := 2, plan := q } none :=
  ⟨⟨⟨(new_ok h).room, rfl, fun k => by simp [new0, Dk.used], by simp [new0], by simp, by simp [new0]⟩, rfl, rfl, rfl, hq⟩, by simp, by simp [Jr.frames], by simp, by simp, .inl rfl, fun _ => rfl⟩
end Jl
