/- A value semantics of the loaded code, its soundness, and walks through functions over it. -/
import Derived.Test.YticlhjamafdmfaaJlInv
/-! What a renewal leaves, in plain Lean. -/
set_option linter.unusedVariables false
set_option linter.unusedSimpArgs false
namespace Jl
open Dk (Disk Bs Files Ch Ev)
def gl (x y : Option Bs) : Files := fl x ++ (match y with | none => [] | some b => [(FR, b)])
theorem gl_none (x : Option Bs) : gl x none = fl x := by simp [gl]
theorem gl_LOG (x y : Option Bs) : Dk.get (gl x y) LOG = x := by
  cases x <;> cases y <;> simp [gl, fl, Dk.get, ne_FR]
theorem gl_FR (x y : Option Bs) : Dk.get (gl x y) FR = y := by
  cases x <;> cases y <;> simp [gl, fl, Dk.get, ne_FR.symm]
theorem gl_set (x : Option Bs) (b : Bs) : Dk.set (fl x) FR b = gl x (some b) := by
  cases x <;> simp [gl, fl, Dk.set, ne_FR.symm]
theorem gl_del (x : Option Bs) (b : Bs) : Dk.del (gl x (some b)) FR = gl x none := by
  cases x <;> simp [gl, fl, Dk.del, ne_FR.symm]
theorem gl_move (x : Option Bs) (b : Bs) : Dk.make (gl x (some b)) ⟨LOG, FR, [], false, false⟩ = fl (some b) := by
  rw [← gl_set]; exact fl2_move x b
/-- Whatever falls is so. -/
structure Fal (s : Disk) (G : Files → Prop) : Prop where
  ok : Dk.Ok s
  plan : ∀ e ∈ s.plan, e.kind ≠ 3
  dn : s.down = true → s.pend = []
  fall : ∀ k t, G (Dk.fallen s k t)
theorem fallen_nil {s : Disk} (h : s.pend = []) (k t : Int) : Dk.fallen s k t = s.dur := by
  unfold Dk.fallen
  rw [h]; simp
theorem fallen_calls (s : Disk) (c : Int) (k t : Int) : Dk.fallen { s with calls := c } k t = Dk.fallen s k t := rfl
theorem Fal.mono {s : Disk} {G G' : Files → Prop} (h : Fal s G) (hg : ∀ f, G f → G' f) : Fal s G' := ⟨h.ok, h.plan, h.dn, fun k t => hg _ (h.fall k t)⟩
theorem Fal.crash {s : Disk} {G : Files → Prop} (h : Fal s G) (k t : Int) : Fal (Dk.crash s k t) G := by
  cases hd : s.down with
  | true => rw [crash_down hd]; exact h
  | false =>
    have hok := h.ok.crash k t
    have hf := h.fall k t
    rw [crash_up hd] at hok ⊢
    exact ⟨hok, h.plan, fun _ => rfl, fun k' t' => by rw [fallen_nil rfl]; exact hf⟩
theorem Fal.call {s : Disk} {G : Files → Prop} (h : Fal s G) (ns : List Bs) : Fal (Dk.call s ns).1 G := by
  have hok := h.ok.events
  obtain ⟨_, h2⟩ := events_any h.plan
  show Fal (Dk.events s).1 G
  rcases h2 with h2 | ⟨k, t, h2⟩
  · rw [h2] at hok ⊢
    exact ⟨hok, h.plan, h.dn, h.fall⟩
  · have hc := h.crash k t
    rw [h2] at hok ⊢
    exact ⟨hok, hc.plan, hc.dn, hc.fall⟩
theorem call_two {s : Disk} (hpl : ∀ e ∈ s.plan, e.kind ≠ 3) (ns : List Bs) (hn : ns.all Dk.nameOk = true) :
    ((Dk.call s ns).1 = { s with calls := s.calls + 1 } ∧ (Dk.call s ns).2.2 = 0 ∧ s.down = false) ∨ ((Dk.call s ns).1.down = true ∧ (Dk.call s ns).2.2 = 9) := by
  obtain ⟨h1, h2⟩ := events_any hpl
  have hc : (Dk.call s ns).1 = (Dk.events s).1 := rfl
  have he : (Dk.call s ns).2.2 = if (Dk.events s).1.down = true then 9 else 0 := by
    unfold Dk.call
    simp only [h1, hn]
    simp
  rw [hc, he]
  rcases h2 with h2 | ⟨k, t, h2⟩
  · cases hd : s.down with
    | false => left; rw [h2]; simp [hd]
    | true => right; rw [h2]; simp [hd]
  · right
    rw [h2]
    simp [crash_down']
theorem call_dn {s : Disk} (hpl : ∀ e ∈ s.plan, e.kind ≠ 3) (hd : s.down = true) (ns : List Bs) (hn : ns.all Dk.nameOk = true) : (Dk.call s ns).2.2 = 9 := by
  rcases call_two hpl ns hn with ⟨_, _, h⟩ | ⟨_, h⟩
  · rw [hd] at h; cases h
  · exact h
theorem fallen_one {s : Disk} {c : Ch} (hp : s.pend = [c]) (k t : Int) : Dk.fallen s k t = s.dur ∨ Dk.fallen s k t = Dk.make s.dur c ∨ ∃ c', Dk.torn c t = some c' ∧ Dk.fallen s k t = Dk.make s.dur c' := by
  unfold Dk.fallen
  have hk : Dk.kept s k = 0 ∨ Dk.kept s k = 1 := by
    unfold Dk.kept
    rw [hp]
    simp only [List.length_singleton]
    omega
  rcases hk with hk | hk
  · rw [hk, hp]
    simp only [List.take_zero, List.foldl_nil, List.getElem?_cons_zero]
    cases htn : Dk.torn c t with
    | none => exact .inl rfl
    | some c' => exact .inr (.inr ⟨c', rfl, rfl⟩)
  · rw [hk, hp]
    exact .inr (.inl (by simp))
theorem sync_two {s : Disk} {G : Files → Prop} (h : Fal s G) : ((Dk.sync s).2 ≠ 0 ∧ Fal (Dk.sync s).1 G ∧ (Dk.sync s).1.down = true) ∨ (Dk.sync s = ({ s with calls := s.calls + 1, dur := s.now, pend := [] }, 0) ∧ s.down = false) := by
  have hc := h.call []
  rcases call_two h.plan [] rfl with ⟨c1, c2, c3⟩ | ⟨c1, c2⟩
  · right
    refine ⟨?_, c3⟩
    unfold Dk.sync
    simp only
    rw [if_neg (by rw [c2]; simp), c1]
  · left
    have : Dk.sync s = ((Dk.call s []).1, 9) := by
      unfold Dk.sync
      simp only
      rw [if_pos (by rw [c2]; simp), c2]
    rw [this]
    exact ⟨by simp, hc, c1⟩
def Good (x : Option Bs) (m : List Bs) (c : Int) (F : Files) : Prop := (F = fl (some (Jr.frames m)) ∧ ∀ p ∈ m, p.length ≤ 60000) ∨ (c ≠ 0 ∧ ∃ y, F = gl x y)
theorem make_put (x : Option Bs) (b : Bs) : Dk.make (fl x) ⟨FR, [], b, true, false⟩ = gl x (some b) := by
  unfold Dk.make
  simp [gl_set]
theorem delete_fal {s : Disk} {x : Option Bs} {G : Files → Prop} (h : Fal s G) (hn : s.down = true ∨ s.now = fl x) : Fal (Dk.delete s FR).1 G := by
  have hc := h.call [FR]
  unfold Dk.delete
  simp only
  rcases call_two h.plan [FR] (by simp [name_FR]) with ⟨c1, c2, c3⟩ | ⟨c1, c2⟩
  · rw [if_neg (by rw [c2]; simp)]
    rcases hn with hn | hn
    · rw [hn] at c3; cases c3
    · rw [if_pos]
      · exact hc
      · rw [c1]; simp [hn, Dk.has, get_FR]
  · rw [if_pos (by rw [c2]; simp)]
    exact hc
theorem renew_law {s : Disk} {x : Option Bs} (h : Rest s x) (l : Log) (hl : l.bad = false) (m : List Bs) : Fal (renew s LOG l m).1 (Good x m (renew s LOG l m).2.2) := by
  have h0 : Fal s (Good x m 1) := ⟨h.ok, h.plan, fun _ => h.pend, fun k t => by rw [fallen_rest h]; exact .inr ⟨by simp, none, (gl_none x).symm⟩⟩
  have big : ∀ {r : Disk} {c : Int}, c ≠ 0 → Fal r (Good x m 1) → Fal r (Good x m c) := fun hc hr => hr.mono fun f hf => by
    rcases hf with hf | ⟨_, hf⟩
    · exact .inl hf
    · exact .inr ⟨hc, hf⟩
  unfold renew
  rw [if_neg (by rw [hl]; simp)]
  by_cases hfit : m.all (fun p => decide (p.length ≤ 60000)) = false
  · rw [if_pos hfit]
    exact big (by simp) h0
  rw [if_neg hfit]
  have hm : ∀ p ∈ m, p.length ≤ 60000 := by
    have : m.all (fun p => decide (p.length ≤ 60000)) = true := by simpa using hfit
    rw [List.all_eq_true] at this
    intro p hp
    simpa using this p hp
  rw [FR_eq]
  -- the write
  have kw := Dk.Keeps.write h.ok FR (Jr.frames m)
  have hw : ((Dk.write s FR (Jr.frames m)).2 ≠ 0 ∧ Fal (Dk.write s FR (Jr.frames m)).1 (Good x m 1) ∧ ((Dk.write s FR (Jr.frames m)).1.down = true ∨ (Dk.write s FR (Jr.frames m)).1.now = fl x)) ∨ (Dk.write s FR (Jr.frames m) = ({ s with calls := s.calls + 1, now := gl x (some (Jr.frames m)), pend := [⟨FR, [], Jr.frames m, true, false⟩] }, 0) ∧ s.down = false) := by
    have hc := h0.call [FR]
    unfold Dk.write
    simp only
    rcases call_two h.plan [FR] (by simp [name_FR]) with ⟨c1, c2, c3⟩ | ⟨c1, c2⟩
    · rw [if_neg (by rw [c2]; simp)]
      unfold Dk.lay
      split
      · left
        refine ⟨by simp, hc, .inr ?_⟩
        rw [c1]; exact h.now
      · right
        refine ⟨?_, c3⟩
        rw [c1]
        simp only [Dk.does, h.now, h.pend, List.nil_append, make_put]
    · rw [if_pos (by rw [c2]; simp)]
      left
      exact ⟨by rw [c2]; simp, hc, .inl c1⟩
  generalize Dk.write s FR (Jr.frames m) = w at *
  -- failure at any point before the rename
  have fail1 : ∀ q : Disk × Int, q.2 ≠ 0 → Fal q.1 (Good x m 1) → (q.1.down = true ∨ q.1.now = fl x) → ∀ z : Disk × Log × Int, z = (if q.2 ≠ 0 then ((Dk.delete q.1 FR).1, l, q.2) else z) → Fal z.1 (Good x m z.2.2) := by
    intro q h1 h2 h3 z hz
    rw [hz, if_pos h1]
    exact big h1 (delete_fal h2 h3)
  rcases hw with ⟨w1, w2, w3⟩ | ⟨rfl, hd⟩
  · have ht : then_ w Dk.sync = w := by unfold then_; rw [if_neg w1]
    rw [ht]
    simp only
    rw [if_pos w1]
    exact big w1 (delete_fal w2 w3)
  · obtain ⟨s1, hs1⟩ : ∃ s1 : Disk, s1 = { s with calls := s.calls + 1, now := gl x (some (Jr.frames m)), pend := [⟨FR, [], Jr.frames m, true, false⟩] } := ⟨_, rfl⟩
    rw [← hs1] at kw ⊢
    have f1 : Fal s1 (Good x m 1) := by
      refine ⟨kw.ok, by rw [hs1]; exact h.plan, fun hh => by rw [hs1] at hh; simp [hd] at hh, fun k t => ?_⟩
      have p1 : s1.pend = [⟨FR, [], Jr.frames m, true, false⟩] := by rw [hs1]
      have d1 : s1.dur = fl x := by rw [hs1]; exact h.dur
      rcases fallen_one p1 k t with e | e | ⟨c', e1, e⟩
      · rw [e, d1]; exact .inr ⟨by simp, none, (gl_none x).symm⟩
      · rw [e, d1, make_put]; exact .inr ⟨by simp, _, rfl⟩
      · rw [e, d1]
        unfold Dk.torn at e1
        split at e1
        · cases e1
        · injection e1 with e1
          subst e1
          rw [make_put]
          exact .inr ⟨by simp, _, rfl⟩
    have ht : then_ (s1, (0 : Int)) Dk.sync = Dk.sync s1 := by unfold then_; simp
    rw [ht]
    have ky := Dk.Keeps.sync kw.ok
    rcases sync_two f1 with ⟨y1, y2, y3⟩ | ⟨y1, y2⟩
    · simp only
      rw [if_pos y1]
      exact big y1 (delete_fal (x := x) y2 (.inl y3))
    · rw [y1] at ky ⊢
      obtain ⟨s2, hs2⟩ : ∃ s2 : Disk, s2 = { s1 with calls := s1.calls + 1, dur := s1.now, pend := [] } := ⟨_, rfl⟩
      rw [← hs2] at ky ⊢
      have n2 : s2.now = gl x (some (Jr.frames m)) := by rw [hs2, hs1]
      have d2 : s2.dur = gl x (some (Jr.frames m)) := by rw [hs2, hs1]
      have p2 : s2.pend = [] := by rw [hs2]
      have pl2 : ∀ e ∈ s2.plan, e.kind ≠ 3 := by rw [hs2, hs1]; exact h.plan
      have f2 : Fal s2 (Good x m 1) := ⟨ky.ok, pl2, fun _ => p2, fun k t => by rw [fallen_nil p2, d2]; exact .inr ⟨by simp, _, rfl⟩⟩
      simp only
      rw [if_neg (by simp)]
      have kr := Dk.Keeps.rename ky.ok FR LOG
      have hr : ((Dk.rename s2 FR LOG).2 ≠ 0 ∧ Fal (Dk.rename s2 FR LOG).1 (Good x m 1)) ∨ (Dk.rename s2 FR LOG = ({ s2 with calls := s2.calls + 1, now := fl (some (Jr.frames m)), pend := [⟨LOG, FR, [], false, false⟩] }, 0) ∧ s2.down = false) := by
        have hc := f2.call [FR, LOG]
        unfold Dk.rename
        simp only
        rcases call_two pl2 [FR, LOG] (by simp [name_FR, name_LOG]) with ⟨c1, c2, c3⟩ | ⟨c1, c2⟩
        · right
          refine ⟨?_, c3⟩
          rw [if_neg (by rw [c2]; simp), c1]
          simp only [n2, Dk.has, gl_FR, Option.isSome_some, Bool.true_eq_false, if_false, ne_FR.symm, Dk.does, gl_move, p2, List.nil_append]
        · left
          rw [if_pos (by rw [c2]; simp)]
          exact ⟨by rw [c2]; simp, hc⟩
      generalize Dk.rename s2 FR LOG = v at *
      rcases hr with ⟨v1, v2⟩ | ⟨rfl, hd2⟩
      · have ht : then_ v Dk.sync = v := by unfold then_; rw [if_neg v1]
        rw [ht, if_pos v1]
        exact big v1 v2
      · obtain ⟨s3, hs3⟩ : ∃ s3 : Disk, s3 = { s2 with calls := s2.calls + 1, now := fl (some (Jr.frames m)), pend := [⟨LOG, FR, [], false, false⟩] } := ⟨_, rfl⟩
        rw [← hs3] at kr ⊢
        have f3 : Fal s3 (Good x m 1) := by
          refine ⟨kr.ok, by rw [hs3]; exact pl2, fun hh => by rw [hs3] at hh; simp [hd2] at hh, fun k t => ?_⟩
          have p3 : s3.pend = [⟨LOG, FR, [], false, false⟩] := by rw [hs3]
          have d3 : s3.dur = gl x (some (Jr.frames m)) := by rw [hs3]; exact d2
          rcases fallen_one p3 k t with e | e | ⟨c', e1, e⟩
          · rw [e, d3]; exact .inr ⟨by simp, _, rfl⟩
          · rw [e, d3, gl_move]; exact .inl ⟨rfl, hm⟩
          · unfold Dk.torn at e1
            rw [if_pos (.inl ⟨rfl, rfl⟩)] at e1
            cases e1
        have ht : then_ (s3, (0 : Int)) Dk.sync = Dk.sync s3 := by unfold then_; simp
        rw [ht]
        have kz := Dk.Keeps.sync kr.ok
        rcases sync_two f3 with ⟨z1, z2, z3⟩ | ⟨z1, z2⟩
        · rw [if_pos z1]
          exact big z1 z2
        · rw [z1] at kz ⊢
          simp only
          rw [if_neg (by simp)]
          refine ⟨kz.ok, by rw [hs3]; exact pl2, fun _ => rfl, fun k t => ?_⟩
          rw [fallen_nil rfl]
          exact .inl ⟨by simp only; rw [hs3], hm⟩
/-- A disk that is up, with nothing planned, and these files. -/
structure Calm2 (s : Disk) (F : Files) : Prop where
  ok : Dk.Ok s
  plan : s.plan = []
  down : s.down = false
  now : s.now = F
  dur : s.dur = F
def again0 (s : Disk) (keep torn : Int) : Disk := { Dk.crash s keep torn with down := false, plan := [] }
theorem again0_calls (s : Disk) (keep torn : Int) : (again0 s keep torn).calls = s.calls := Dk.crash_calls s keep torn
theorem again0_calm {s : Disk} {G : Files → Prop} (h : Fal s G) (keep torn : Int) : ∃ F, G F ∧ Calm2 (again0 s keep torn) F := by
  have key : ∀ s' : Disk, Dk.Ok s' → s'.pend = [] → Calm2 { s' with down := false, plan := [] } s'.dur := by
    intro s' h1 h2
    exact ⟨⟨h1.room, h1.now, h1.size, h1.pend, h1.calls, h1.nil⟩, rfl, rfl, by have := h1.now; rw [h2] at this; exact this, rfl⟩
  unfold again0
  cases hd : s.down with
  | true =>
    have hf := h.fall 0 0
    rw [fallen_nil (h.dn hd)] at hf
    rw [crash_down hd]
    exact ⟨_, hf, key s h.ok (h.dn hd)⟩
  | false =>
    have hok := h.ok.crash keep torn
    rw [crash_up hd] at hok ⊢
    exact ⟨_, h.fall keep torn, key _ hok rfl⟩
theorem renew_back {s : Disk} {x : Option Bs} {L m : List Bs} {c : Int} (h : Fal s (Good x m c)) (hx : x.getD [] = Jr.frames L) (hL : ∀ p ∈ L, p.length ≤ 60000) (hlen : (Jr.frames L).length ≤ 200000) (hmen : (Jr.frames m).length ≤ 200000) (keep torn : Int) :
    ∃ s1 got, open_ (again0 s keep torn) LOG = (s1, some ⟨got, false⟩, 0) ∧ Dk.Ok s1 ∧ Dk.get s1.now FR = none ∧ ((got = m ∧ ∀ p ∈ m, p.length ≤ 60000) ∨ (c ≠ 0 ∧ got = L)) ∧ (Dk.read (again0 s keep torn) LOG).2.1.length ≤ 400000 := by
  obtain ⟨F, hF, hc⟩ := again0_calm h keep torn
  generalize again0 s keep torn = a at *
  have hF2 : ∃ x' y rec, F = gl x' y ∧ x'.getD [] = Jr.frames rec ∧ (∀ p ∈ rec, p.length ≤ 60000) ∧ (Jr.frames rec).length ≤ 200000 ∧ ((rec = m ∧ ∀ p ∈ m, p.length ≤ 60000) ∨ (c ≠ 0 ∧ rec = L)) := by
    rcases hF with ⟨e, hm⟩ | ⟨hc, y, e⟩
    · exact ⟨some (Jr.frames m), none, m, by rw [e, gl_none], rfl, hm, hmen, .inl ⟨rfl, hm⟩⟩
    · exact ⟨x, y, L, e, hx, hL, hlen, .inr ⟨hc, rfl⟩⟩
  obtain ⟨x', y, rec, rfl, e1, e2, e3, e4⟩ := hF2
  have hr : Dk.read a LOG = ({ a with calls := a.calls + 1 }, x'.getD [], if x'.isSome = true then 0 else 6) := by
    unfold Dk.read
    rw [call_calm hc.plan hc.down [LOG] (by simp [name_LOG])]
    simp only [hc.now, gl_LOG]
    cases x' <;> simp
  have hgo : ¬ ((Dk.read a LOG).2.2 ≠ 0 ∧ (Dk.read a LOG).2.2 ≠ 6) := by
    rw [hr]; simp only
    cases x' <;> simp
  have hsc := Jr.scan_all rec e2
  have hend : ¬ (Jr.scan (Dk.read a LOG).2.1).2 < (Dk.read a LOG).2.1.length := by
    rw [hr]; simp only [e1, hsc]; omega
  obtain ⟨s0, hs0⟩ : ∃ s0 : Disk, s0 = { a with calls := a.calls + 1 } := ⟨_, rfl⟩
  have ok0 : Dk.Ok s0 := by rw [hs0]; exact hc.ok.more
  have kd := Dk.Keeps.delete ok0 FR
  have hd : ((Dk.delete s0 FR).2 = 0 ∨ (Dk.delete s0 FR).2 = 6) ∧ Dk.get (Dk.delete s0 FR).1.now FR = none := by
    unfold Dk.delete
    rw [call_calm (by rw [hs0]; exact hc.plan) (by rw [hs0]; exact hc.down) [FR] (by simp [name_FR])]
    have hn : s0.now = gl x' y := by rw [hs0]; exact hc.now
    simp only [hn, Dk.has, gl_FR]
    cases y with
    | none => simp [gl_FR]
    | some b =>
      simp only [Option.isSome_some, Bool.true_eq_false, if_false, ne_eq, not_true, Dk.does, hn]
      refine ⟨by simp, ?_⟩
      unfold Dk.make
      simp only [Bool.false_eq_true, if_false, ne_eq, not_true]
      rw [gl_del, gl_FR]
  refine ⟨(Dk.delete s0 FR).1, rec, ?_, kd.ok, hd.2, e4, by rw [hr]; simp only [e1]; omega⟩
  rw [open_plain hgo hend, hr]
  simp only [e1, hsc]
  unfold openTail
  rw [FR_eq, ← hs0, if_neg (by rcases hd.1 with h | h <;> rw [h] <;> simp)]
/-- An append where nothing falls. -/
theorem append_calm {s : Disk} {x : Option Bs} (h : Calm s x) (l : Log) (hl : l.bad = false) (p : Bs) (hp : p.length ≤ 60000) (hx : (x.getD []).length ≤ 400000) :
    (append s LOG l p).2.2 = 0 ∧ Calm (append s LOG l p).1 (some (x.getD [] ++ Jr.frame p)) ∧ (append s LOG l p).2.1.bad = false := by
  have hkeep := Dk.Keeps.append h.ok LOG (Jr.frame p)
  have hfl := Jr.frame_len p
  have ha : Dk.append s LOG (Jr.frame p) = ({ s with calls := s.calls + 1, now := fl (some (x.getD [] ++ Jr.frame p)), pend := [⟨LOG, [], Jr.frame p, false, true⟩] }, 0) := by
    unfold Dk.append
    rw [call_calm h.plan h.down [LOG] (by simp [name_LOG])]
    simp only [ne_eq, not_true, if_false]
    unfold Dk.lay
    rw [if_neg]
    · simp only [Dk.does, h.now, h.pend, List.nil_append, make_app]
    · rintro (h' | h')
      · cases h'
      · simp only [h.now, h.room, used_fl] at h'
        omega
  obtain ⟨s1, hs1⟩ : ∃ s1 : Disk, s1 = { s with calls := s.calls + 1, now := fl (some (x.getD [] ++ Jr.frame p)), pend := [⟨LOG, [], Jr.frame p, false, true⟩] } := ⟨_, rfl⟩
  rw [ha, ← hs1] at hkeep
  rw [← hs1] at ha
  have hy : Dk.sync s1 = ({ s1 with calls := s1.calls + 1, dur := s1.now, pend := [] }, 0) := by
    unfold Dk.sync
    rw [call_calm (by rw [hs1]; exact h.plan) (by rw [hs1]; exact h.down) [] rfl]
    simp
  have k2 := Dk.Keeps.sync hkeep.ok
  rw [hy] at k2
  unfold append
  rw [if_neg (by rw [hl]; simp), if_neg (by omega)]
  simp only [ha, hy]
  rw [if_neg (by simp), if_neg (by simp)]
  exact ⟨rfl, ⟨k2.ok, by simp only; rw [hs1]; exact h.plan, by simp only; rw [hs1]; exact h.down, rfl, by simp only; rw [hs1], by simp only; rw [hs1], by simp only; rw [hs1]; exact h.room⟩, hl⟩
theorem Calm.rest {s : Disk} {x : Option Bs} (h : Calm s x) (q : List Ev) (hq : ∀ e ∈ q, e.kind ≠ 3) : Rest { s with plan := q } x := ⟨⟨h.ok.room, h.ok.now, h.ok.size, h.ok.pend, h.ok.calls, h.ok.nil⟩, h.pend, h.now, h.dur, hq⟩
theorem start_calm {room : Int} (h : room = 1073741824) : Calm { new0 room with calls := 2 } none :=
  ⟨⟨(new_ok (room := room) (by omega)).room, rfl, fun k => by simp [new0, Dk.used], by simp [new0], by simp, by simp [new0]⟩, rfl, rfl, rfl, rfl, rfl, h⟩
end Jl
