/- A value semantics of the loaded code, its soundness, and walks through functions over it. -/
import Derived.Test.YtbfcbjmoijiffaaGreatLvAll10
import Derived.Sort.KeysCollected
import Derived.Test.YtbfcbjmoijiffaaGreatLvAll11
import Derived.Test.YtbfcbjmoijiffaaGreatLvAll8
import Derived.Test.YtbfcbjmoijiffaaGreatLvAll6
import Derived.Test.YtbfcbjmoijiffaaGreatLvAll9
set_option linter.unusedVariables false
set_option linter.unusedSimpArgs false
/-! The keys of a map, rising. -/
namespace Go.Lv
open Go.RowKit (Below)
open Go.Proofs (encStr)
section
variable {P : Program} {F : Facts} {L : List Nat} {w : World} {H : Heap}

def keyB : AV → List UInt8
  | .v (.string s) => s.data.toList
  | _ => []
def strV : Value → List UInt8
  | .string s => s.data.toList
  | _ => []
theorem strV_enc (x : List UInt8) : strV (encStr x) = x := by simp [strV, encStr]
/-- What a walk over a map's keys, sorted, comes to. -/
def NamesMap (P : Program) (f : FuncId) (t : TypeId) : Prop :=
  ∀ (w : World) (B B' : Nat) (arr : Array Value) (ta : TypeId) (fr : Nat × Nat) (es : Array MapEntry) (clk : Nat), w.heap[B]? = some (.cells arr ta fr) → arr[1]? = some (.map (some B')) → w.heap[B']? = some (.map es clk) → MapKept.Stamped es clk → (∀ x ∈ es.toList, MapKept.IsKey .string x.key) → es.size ≤ 1000000000 →
    Calls P f #[.pointer (some ⟨B, 0, none⟩)] w fun e w' => ∃ (v : Value) (ss : List (List UInt8)), e = .returned v ∧ (ss.map encStr).Perm (es.toList.map (·.key)) ∧ w'.ownsRow w.heap.size t 1 v ss.length ((ss.mergeSort leB).map encStr) ∧ Below w.heap.size w w'

def namesT (H : Heap) : List AV → Option (AV × Heap)
  | [.ptr j 0] => (H[j]?).bind fun cs => match cs with
    | _ :: .mp a :: _ => (mapOf H a).bind fun kv => if kv.1.all strKey = true ∧ kv.1.length ≤ 1000000000 then some (.sl (((kv.1.map keyB).mergeSort leB).map fun s => .v (.string ⟨⟨s⟩⟩)), H) else none
    | _ => none
  | _ => none

theorem keys_enc {ks : List AV} {fs : List MapEntry} (hl : ks.length = fs.length) (h4 : ∀ (i : Nat) k, ks[i]? = some k → ∃ e, fs[i]? = some e ∧ Rel F L k e.key) (hk : ks.all strKey = true) : fs.map (·.key) = (ks.map keyB).map encStr := by
  apply List.ext_getElem?
  intro i
  rw [List.getElem?_map, List.getElem?_map, List.getElem?_map]
  rcases Nat.lt_or_ge i ks.length with hi | hi
  · have hki : ks[i]? = some ks[i] := List.getElem?_eq_getElem hi
    obtain ⟨e, he, hr⟩ := h4 i _ hki
    rw [he, hki]
    have := List.all_eq_true.1 hk _ (List.mem_of_getElem? hki)
    generalize ks[i] = k at *
    unfold strKey at this
    split at this
    · obtain ⟨e1, _⟩ := hr.v_eq
      simp only [Option.map_some, ← e1, keyB, encStr]
    · cases this
  · rw [List.getElem?_eq_none hi, List.getElem?_eq_none (by omega)]; rfl

theorem namesT_ok {f : FuncId} {t : TypeId} (hc : NamesMap P f t) {args : List AV} {r : AV} {H' : Heap} (h : namesT H args = some (r, H')) : CallOK P (cloneSig 1) f args H r H' := by
  intro F L w vs hS hvl hrel hown hglob
  unfold namesT at h
  split at h
  · rename_i j
    obtain ⟨cs, hj, h⟩ := Option.bind_eq_some_iff.1 h
    split at h
    · rename_i c0 a rest
      obtain ⟨⟨ks, us⟩, hmo, h⟩ := Option.bind_eq_some_iff.1 h
      simp only at h
      split at h
      · rename_i hle
        injection h with h; injection h with h1 h2; subst h1 h2
        match vs, hvl with
        | [v], _ =>
          have r0 : Rel F L (.ptr j 0) v := hrel 0 _ rfl
          cases r0 with
          | ptr _ _ B hB =>
            obtain ⟨arr, ta, m1, m2, m3, m4⟩ := hS.obj j _ B hj (by simp) (by simp [isMv]) hB
            have r1 := m4 1 _ rfl
            cases hv1 : arr.getD 1 undef with
            | map b =>
              rw [hv1] at r1
              cases r1 with
              | mp _ B' hB' =>
                obtain ⟨es, fs, clk, h1, hst, hpm, h2, h3, h4, h5⟩ := hS.mob a ks us B' (mapOf_some hmo) hB'
                have harr : arr.toArray[1]? = some (.map (some B')) := by
                  rw [List.getElem?_toArray]
                  have hl : 1 < arr.length := by simp at m2; omega
                  rw [List.getElem?_eq_getElem hl]
                  rw [List.getD_eq_getElem?_getD, List.getElem?_eq_getElem hl] at hv1
                  exact congrArg some hv1
                have hle2 := hpm.length_eq
                refine (hc w B B' arr.toArray ta m1.choose es.toArray clk m1.choose_spec.1 harr h1 hst (by simpa using keys_str hpm h2 h4 hle.1) (by simp; omega)).mono ?_
                rintro e w' ⟨v, ss, rfl, hp, ho, hb⟩
                have hke := keys_enc (F := F) (L := L) h2 h4 hle.1
                have hp1 : (ss.map encStr).Perm ((ks.map keyB).map encStr) := by
                  rw [← hke]
                  exact hp.trans (by simpa using (hpm.map (·.key)).symm)
                have hp2 := hp1.map strV
                simp only [List.map_map] at hp2
                have e1 : (strV ∘ encStr) = id := funext strV_enc
                have e2 : (strV ∘ encStr ∘ keyB) = keyB := funext fun k => strV_enc _
                rw [e1, e2, List.map_id] at hp2
                rw [mergeSort_of_perm hp2] at ho
                have hlen : ss.length = ((ks.map keyB).mergeSort leB).length := by rw [List.length_mergeSort, List.length_map]; simpa using hp2.length_eq
                rw [hlen] at ho
                generalize (ks.map keyB).mergeSort leB = ts at *
                have hr : Row F L 1 (ts.map fun s => AV.v (.string ⟨⟨s⟩⟩)) (ts.map encStr) := by
                  refine ⟨by simp, fun i e he => ?_, fun i e k c he hc => ?_⟩
                  · rw [List.getElem?_map] at he
                    obtain ⟨x, _, rfl⟩ := Option.map_eq_some_iff.1 he
                    rfl
                  · rw [List.getElem?_map] at he
                    obtain ⟨x, hx, rfl⟩ := Option.map_eq_some_iff.1 he
                    match k, hc with
                    | 0, hc =>
                      injection hc with hc; subst hc
                      rw [Nat.mul_one, Nat.add_zero, List.getD_eq_getElem?_getD, List.getElem?_map, hx]
                      exact .sc _ rfl
                have hlen2 : ts.length = (ts.map fun s => AV.v (.string ⟨⟨s⟩⟩)).length := by simp
                rw [hlen2] at ho
                obtain ⟨F', L', hret⟩ := clone_end (n := 1) (t := t) (vs := [Value.pointer (some ⟨B, 0, none⟩)]) hS hr (fun u hu => by obtain ⟨x, _, rfl⟩ := List.mem_map.1 hu; rfl) Nat.one_pos ho hb
                exact ⟨_, F', L', rfl, hret⟩
            | _ => rw [hv1] at r1; cases r1
        | [], h => simp at h
        | _ :: _ :: _, h => simp at h
      · cases h
    · cases h
  · cases h
end
end Go.Lv
set_option linter.unusedVariables false
set_option linter.unusedSimpArgs false
/-! A copy of bytes that may be written. -/
namespace Go.Lv
open Go.RowKit (Below)
section
variable {P : Program} {F : Facts} {L : List Nat} {w : World} {H : Heap}

theorem St.addRow (hS : St P F L NX w H) {B r : Nat} {cs : List AV} {arr : List Value} {t : TypeId} (hw : w.heap[B]? = some (.cells arr.toArray t (0, 0))) (hB : B ∉ L) (hr : r ≤ arr.length) (hr0 : F.room B = 0) (hcr : cs.length ≤ r) (hmc : isMv cs = false) (hcl : ∀ (k : Nat) c, cs[k]? = some c → Rel F L c (arr.getD k undef)) (hf : ∀ i, F B i = none)
    {Fx : Facts} {Lx : List Nat} {wx : World} (hgo : Goes (fun _ => False) Fx Lx wx F L w) (hBx : wx.heap.size ≤ B) :
    ∃ F' : Facts, F'.get = F.get ∧ F'.room B = r ∧ St P F' (L ++ [B]) NX w (H ++ [cs]) ∧ Goes (fun _ => False) Fx Lx wx F' (L ++ [B]) w := by
  obtain ⟨F', hFg, hFr⟩ : ∃ F' : Facts, F'.get = F.get ∧ ∀ b, F'.room b = if b = B then r else F.room b := ⟨⟨F.get, fun b => if b = B then r else F.room b⟩, rfl, fun _ => rfl⟩
  have hget : ∀ b i, F' b i = F b i := fun b i => by rw [hFg]
  have hBlt : B < w.heap.size := (Array.getElem?_eq_some_iff.1 hw).1
  have hrm : ∀ b, F.room b ≤ F'.room b := by
    intro b
    rw [hFr]
    split
    · rename_i h; subst h; omega
    · exact Nat.le_refl _
  have hpre : ∀ (j b : Nat), L[j]? = some b → (L ++ [B])[j]? = some b := by
    intro j b h
    rw [List.getElem?_append_left (List.getElem?_eq_some_iff.1 h).1]
    exact h
  have hmono : ∀ {a v}, Rel F L a v → Rel F' (L ++ [B]) a v := fun h => h.mono (fun b i v h => by rw [hget]; exact h) hrm hpre
  have hgo' : Goes (fun _ => False) Fx Lx wx F' (L ++ [B]) w :=
    ⟨hgo.size, fun b hb hg hL => ⟨(hgo.keep b hb hg hL).1, fun i => by rw [hget]; exact (hgo.keep b hb hg hL).2 i⟩, fun b i v h => by rw [hget]; exact hgo.mono _ _ _ h, fun j b h => hpre _ _ (hgo.pre _ _ h),
      fun b hb => by
        rcases List.mem_append.1 hb with h | h
        · exact hgo.newL b h
        · simp at h; subst h; exact .inr hBx, hgo.rest, fun b => Nat.le_trans (hgo.room b) (hrm b)⟩
  have old : ∀ (j : Nat) cs' b, (H ++ [cs])[j]? = some cs' → (L ++ [B])[j]? = some b → (H[j]? = some cs' ∧ L[j]? = some b ∧ b ≠ B) ∨ (j = L.length ∧ cs' = cs ∧ b = B) := by
    intro j cs' b hj hb
    rcases Nat.lt_or_ge j L.length with hjl | hjl
    · rw [List.getElem?_append_left hjl] at hb
      rw [List.getElem?_append_left (hS.len ▸ hjl)] at hj
      exact .inl ⟨hj, hb, fun e => hB (e ▸ mem_of_get hb)⟩
    · rw [List.getElem?_append_right hjl] at hb
      rw [List.getElem?_append_right (hS.len ▸ hjl)] at hj
      have h0 : j - L.length = 0 := by
        have := (List.getElem?_eq_some_iff.1 hb).1
        simp at this
        omega
      rw [h0] at hb
      rw [← hS.len, h0] at hj
      simp at hb hj
      exact .inr ⟨by omega, hj.symm, hb.symm⟩
  refine ⟨F', hFg, by rw [hFr, if_pos rfl], ⟨fun b i v h => ?_, by simp [hS.len], fun j cs' b hj hne hmv hb => ?_, fun b hb => ?_, fun j cs' b hj hne hb i hi => ?_, fun b hb => by simp [NX], fun i j cs1 cs2 b hi hn1 hj hn2 hBi hBj => ?_, fun b hb => by simp [NX] at hb, fun b hb => ?_, fun j ks vs b hj hb => ?_, fun j cs' b hj hpl' hb => by
    rcases old j cs' b hj hb with ⟨k1, k2, k3⟩ | ⟨k1, rfl, rfl⟩
    · exact Nat.le_trans (hS.rm j cs' b k1 hpl' k2) (hrm b)
    · rw [hFr, if_pos rfl]; exact hcr⟩, hgo'⟩
  · rw [hget] at h; exact hS.mem _ _ _ h
  · rcases old j cs' b hj hb with ⟨k1, k2, k3⟩ | ⟨k1, rfl, rfl⟩
    · obtain ⟨arr', t', m1, m2, m3, m4⟩ := hS.obj j cs' b k1 hne hmv k2
      exact ⟨arr', t', m1, m2, by rw [hFr, if_neg k3]; exact m3, fun k c hk => hmono (m4 k c hk)⟩
    · exact ⟨arr, t, .new hw, Nat.le_trans hcr hr, by rw [hFr, if_pos rfl]; exact hr, fun k c hk => hmono (hcl k c hk)⟩
  · rcases List.mem_append.1 hb with h | h
    · exact hS.lt b h
    · simp at h; subst h; exact hBlt
  · rw [hget]
    rcases old j cs' b hj hb with ⟨k1, k2, k3⟩ | ⟨k1, rfl, rfl⟩
    · exact hS.nof j cs' b k1 hne k2 i hi
    · exact hf i
  · rcases old i cs1 b hi hBi with ⟨k1, k2, k3⟩ | ⟨k1, k2, k3⟩ <;> rcases old j cs2 b hj hBj with ⟨m1, m2, m3⟩ | ⟨m1, m2, m3⟩
    · exact hS.inj i j cs1 cs2 b k1 hn1 m1 hn2 k2 m2
    · exact absurd m3 k3
    · exact absurd k3 m3
    · omega
  · rw [hFr, if_neg (by omega)]
    exact hS.room0 b hb
  · rcases old j _ b hj hb with ⟨k1, k2, k3⟩ | ⟨k1, k2, k3⟩
    · obtain ⟨es, fs, clk, m1, mst, mpm, m2, m3, m4, m5⟩ := hS.mob j ks vs b k1 k2
      refine ⟨es, fs, clk, m1, mst, mpm, m2, m3, fun i k hk => ?_, fun i v hv => ?_⟩
      · obtain ⟨e, he, hr⟩ := m4 i k hk
        exact ⟨e, he, hmono hr⟩
      · obtain ⟨e, he, hr⟩ := m5 i v hv
        exact ⟨e, he, hmono hr⟩
    · rw [← k2] at hmc; cases hmc

/-- A copy that may be written. -/
theorem clone_endM {t : TypeId} {ns : List Int} {vs : List Value} {v' : Value} {w' : World} (hS : St P F L NX w H) (h0 : 0 < ns.length) (ho : w'.ownsRow w.heap.size t 1 v' ns.length (ns.map (Value.int .u8))) (hb : Below w.heap.size w w') :
    ∃ F' L', Ret P {} F L w vs (.mr H.length 0 ns.length 1 false) (H ++ [ns.map fun n => AV.v (.int .u8 n)]) v' F' L' w' := by
  obtain ⟨hS1, hg1⟩ := hS.below hb
  obtain ⟨hl, ho⟩ := ho
  rcases ho with ⟨rfl, h00⟩ | ⟨g, cap, cur, rfl, hbg, hw, hnc, hcm, hsz, htk⟩
  · omega
  · have hgL : g ∉ L := fun h => by have := hS.lt g h; omega
    have hgF : ∀ i, F g i = none := fun i => by
      cases h : F g i with
      | none => rfl
      | some v => have := hS.ltF h; omega
    have hw2 : w'.heap[g]? = some (.cells (List.toArray cur.toList) t (0, 0)) := by simpa using hw
    have hcs : cur.toList.length = cap := by rw [Array.length_toList, hsz, Nat.mul_one]
    have hmv : isMv (ns.map fun n => AV.v (.int .u8 n)) = false := by
      cases ns with
      | nil => rfl
      | cons b t => cases t <;> rfl
    obtain ⟨F', f1, f2, hS3, hg3⟩ := hS1.addRow (cs := ns.map fun n => AV.v (.int .u8 n)) (r := cap) hw2 hgL (by omega) (hS.room0 g hbg) (by simpa using hnc) hmv (fun k c hk => by
      rw [List.getElem?_map] at hk
      obtain ⟨b, hb, rfl⟩ := Option.map_eq_some_iff.1 hk
      have hkl := (List.getElem?_eq_some_iff.1 hb).1
      have h2 : (cur.toList.take (ns.length * 1))[k]? = (ns.map (Value.int .u8))[k]? := by rw [htk]
      rw [List.getElem?_take, if_pos (by omega), List.getElem?_map, hb] at h2
      rw [List.getD_eq_getElem?_getD, h2]
      exact .sc _ rfl) hgF hg1 hbg
    refine ⟨F', _, ?_, hS3, hg3.weaken (fun _ _ h => h.elim), by simp, by simp⟩
    refine .mr _ 0 _ 1 cap g false ?_ hnc (by omega) ?_ ?_
    · rw [← hS.len, List.getElem?_append_right (Nat.le_refl _), Nat.sub_self]; rfl
    · rw [f2]; omega
    · have : maxLen ≤ 9223372036854775807 := by unfold maxLen; omega
      omega

/-- What copying bytes comes to. -/
def CopiesB (P : Program) (f : FuncId) (t : TypeId) : Prop :=
  ∀ (w : World) (ad : Option Addr) (c : Nat) (ns : List Int), ns.length ≤ 140737488355328 → (ad = none → c = 0 ∧ ns = []) → (∀ a, ad = some a → ∀ i, i < ns.length → w.cell? (a.add i) = some (.int .u8 (ns.getD i 0))) →
    Calls P f #[.slice ad ns.length c] w fun e w' => ∃ v, e = .returned v ∧ w'.ownsRow w.heap.size t 1 v ns.length (ns.map (Value.int .u8)) ∧ Below w.heap.size w w'

def copyBA (H : Heap) : List AV → Option (AV × Heap)
  | [.sl xs] => (u8s xs).bind fun ns => if ns.length = 0 then some (.sl [], H) else if ns.length ≤ 140737488355328 then some (.mr H.length 0 ns.length 1 false, H ++ [xs]) else none
  | _ => none

theorem copyBA_ok {f : FuncId} {t : TypeId} (hc : CopiesB P f t) {args : List AV} {r : AV} {H' : Heap} (h : copyBA H args = some (r, H')) : CallOK P {} f args H r H' := by
  intro F L w vs hS hvl hrel hown hglob
  unfold copyBA at h
  split at h
  · rename_i xs
    obtain ⟨ns, hns, h⟩ := Option.bind_eq_some_iff.1 h
    have hx := u8s_spec hns
    have hnl : ns.length = xs.length := by rw [hx]; simp
    match vs, hvl with
    | [v], _ =>
      have r0 := hrel 0 _ rfl
      simp only [List.getD_cons_zero] at r0
      obtain ⟨ad, cap, news, rfl, hcap, hnone, hrow, hone, hF⟩ := r0.row hS (n := 1) (by rw [hx]; intro a ha; obtain ⟨n, _, rfl⟩ := List.mem_map.1 ha; rfl)
      have hcell : ∀ a, ad = some a → ∀ i, i < ns.length → w.cell? (a.add i) = some (.int .u8 (ns.getD i 0)) := fun a ha0 i hi => by
        have hnw := hrow.len
        have hne : news ≠ [] := by intro he; rw [he] at hnw; simp at hnw; omega
        obtain ⟨B, o, ha, hf⟩ := hF hne
        rw [ha0] at ha
        injection ha with ha; subst ha
        have hxi : xs[i]? = some (AV.v (.int .u8 (ns.getD i 0))) := by
          rw [hx, List.getElem?_map, List.getD_eq_getElem?_getD, List.getElem?_eq_getElem hi]; rfl
        have := hrow.rel i _ 0 _ hxi rfl
        obtain ⟨e, _⟩ := this.v_eq
        rw [Nat.mul_one, Nat.add_zero] at e
        have hni : news[i]? = some (.int .u8 (ns.getD i 0)) := by
          rw [e]; exact getD_get (by omega)
        have hc := (hS.mem _ _ _ (hf i _ hni)).1
        rw [show Addr.add ⟨B, o, none⟩ i = ⟨B, o + i, none⟩ from add_at ..]
        exact hc
      have hnil : ad = none → cap = 0 ∧ ns = [] := fun e => by
        have := hnone e
        exact ⟨this, List.eq_nil_of_length_eq_zero (by omega)⟩
      split at h
      · rename_i h0
        injection h with h; injection h with h1 h2; subst h1 h2
        have hcall := hc w ad cap ns (by omega) hnil hcell
        rw [hnl] at hcall
        refine hcall.mono ?_
        rintro e w' ⟨v', rfl, ho, hb⟩
        obtain ⟨hS1, hg1⟩ := hS.below hb
        refine ⟨_, F, L, rfl, ?_, hS1, hg1.weaken (fun _ _ h => h.elim), by simp, by simp⟩
        rcases ho.2 with ⟨rfl, _⟩ | ⟨g, cap', cur, rfl, _⟩
        · exact .sl0 none 0 (fun _ => rfl)
        · rw [show xs.length = 0 by omega]; exact .sl0 _ _ (fun h => by cases h)
      · rename_i h0
        split at h
        · rename_i hlen
          injection h with h; injection h with h1 h2; subst h1 h2
          have hcall := hc w ad cap ns hlen hnil hcell
          rw [hnl] at hcall
          refine hcall.mono ?_
          rintro e w' ⟨v', rfl, ho, hb⟩
          rw [← hnl] at ho
          obtain ⟨F', L', hR⟩ := clone_endM (vs := [Value.slice ad xs.length cap]) hS (by omega) ho hb
          rw [← hx] at hR
          exact ⟨_, F', L', rfl, hR⟩
        · cases h
    | [], h => simp at h
    | _ :: _ :: _, h => simp at h
  · cases h
end
end Go.Lv
set_option linter.unusedVariables false
set_option linter.unusedSimpArgs false
/-! Structs, in steps. -/
namespace Go.Lv
section
variable {P : Program} {H : Heap}

class FieldIs (P : Program) (t : TypeId) (f : Nat) (ft : outParam TypeId) (o : outParam Nat) (n : outParam Nat) : Prop where
  h : ∃ fs fd, P.underlying t = some (.struct fs) ∧ fs[f]? = some fd ∧ fd.type = ft ∧ fd.offset = o ∧ sizeT P ft = some n ∧ n ≠ 0
class PartsIs (P : Program) (t : TypeId) (offs : outParam (List (Nat × Nat))) : Prop where
  h : ∃ fs, P.underlying t = some (.struct fs) ∧ (fs.toList.mapM fun f => (sizeT P f.type).map fun n => (f.offset, n)) = some offs

@[go_sem] theorem fieldAddr_ptr {t ft : TypeId} {f o n j off : Nat} [h : FieldIs P t f ft o n] : fieldAddrA P t (.ptr j off) f = some (.ptr j (off + o)) := by
  obtain ⟨fs, fd, h1, h2, h3, h4, h5, h6⟩ := h.h
  unfold fieldAddrA
  rw [h1]
  simp only [h2, Option.bind_some, h3, h5, h4]
  rw [if_neg h6]
@[go_sem] theorem fieldAddr_ea {t ft : TypeId} {f o n off : Nat} {e : AV} [h : FieldIs P t f ft o n] : fieldAddrA P t (.ea e off) f = some (.ea e (off + o)) := by
  obtain ⟨fs, fd, h1, h2, h3, h4, h5, h6⟩ := h.h
  unfold fieldAddrA
  rw [h1]
  simp only [h2, Option.bind_some, h3, h5, h4]
  rw [if_neg h6]
def fillD (offs : List (Nat × Nat)) (cells : List AV) : List (Nat × AV) → Option (List AV)
  | [] => some cells
  | (i, a) :: rest =>
    match offs[i]? with
    | none => none
    | some (off, size) =>
      if a.cells.length = size ∧ a.cells.all AV.one = true ∧ off + size ≤ cells.length then fillD offs (cells.take off ++ a.cells ++ cells.drop (off + size)) rest else none
theorem fillD_cons {offs : List (Nat × Nat)} {cells : List AV} {i : Nat} {a : AV} {rest : List (Nat × AV)} : fillD offs cells ((i, a) :: rest) = match offs[i]? with
    | none => none
    | some (off, size) =>
      if a.cells.length = size ∧ a.cells.all AV.one = true ∧ off + size ≤ cells.length then fillD offs (cells.take off ++ a.cells ++ cells.drop (off + size)) rest else none := rfl
theorem mapM_get {α β : Type} {g : α → Option β} : ∀ {l : List α} {m : List β}, l.mapM g = some m → ∀ i : Nat, (l[i]?).bind g = m[i]? := by
  intro l
  induction l with
  | nil => intro m h i; simp at h; subst h; simp
  | cons a l ih =>
    intro m h i
    rw [List.mapM_cons] at h
    obtain ⟨b, hb, h⟩ := Option.bind_eq_some_iff.1 h
    obtain ⟨m', hm, h⟩ := Option.bind_eq_some_iff.1 h
    injection h with h; subst h
    cases i with
    | zero => simpa using hb
    | succ i => simpa using ih hm i
theorem fillA_D {place : Nat → Option (Nat × Nat)} {offs : List (Nat × Nat)} (h : ∀ i, place i = offs[i]?) : ∀ (parts : List (Nat × AV)) (cells : List AV), fillA place cells parts = fillD offs cells parts := by
  intro parts
  induction parts with
  | nil => intro cells; rfl
  | cons p parts ih =>
    intro cells
    obtain ⟨i, a⟩ := p
    unfold fillA fillD
    rw [h i]
    cases offs[i]? with
    | none => rfl
    | some q =>
      simp only
      split
      · exact ih _
      · rfl
@[go_sem] theorem build_D {t : TypeId} {offs : List (Nat × Nat)} {z : List AV} {parts : List (Nat × AV)} [hp : PartsIs P t offs] [hz : ZeroIs P t z] : buildA P t parts = (fillD offs z parts).map .agg := by
  obtain ⟨fs, h1, h2⟩ := hp.h
  have hs : ∃ l, (fs.toList.mapM fun f => sizeT P f.type) = some l := by
    have : ∀ (l : List Field) (m : List (Nat × Nat)), (l.mapM fun f => (sizeT P f.type).map fun n => (f.offset, n)) = some m → ∃ l', (l.mapM fun f => sizeT P f.type) = some l' := by
      intro l
      induction l with
      | nil => intro m _; exact ⟨[], rfl⟩
      | cons a l ih =>
        intro m h
        rw [List.mapM_cons] at h
        obtain ⟨b, hb, h⟩ := Option.bind_eq_some_iff.1 h
        obtain ⟨m', hm, h⟩ := Option.bind_eq_some_iff.1 h
        obtain ⟨l', hl'⟩ := ih _ hm
        obtain ⟨n, hn, _⟩ := Option.map_eq_some_iff.1 hb
        exact ⟨n :: l', by rw [List.mapM_cons, hn, hl']; rfl⟩
    exact this _ _ h2
  obtain ⟨l, hl⟩ := hs
  unfold buildA
  rw [h1, hz.h]
  simp only [hl, Option.bind_some]
  rw [fillA_D (offs := offs)]
  intro i
  have := mapM_get h2 i
  rw [← this]
  simp [Array.getElem?_toList]
@[go_sem] theorem fillD_nil {offs : List (Nat × Nat)} {cells : List AV} : fillD offs cells [] = some cells := rfl
/-- A part of one cell. -/
theorem fillD_one {offs : List (Nat × Nat)} {cells : List AV} {i o : Nat} {a : AV} {rest : List (Nat × AV)} (hi : offs[i]? = some (o, 1)) (ho : o < cells.length) (hc : a.cells = [a]) (h1 : a.one = true) :
    fillD offs cells ((i, a) :: rest) = fillD offs (cells.set o a) rest := by
  have e : cells.take o ++ [a] ++ cells.drop (o + 1) = cells.set o a := by rw [List.set_eq_take_append_cons_drop, if_pos ho, List.append_assoc, List.singleton_append]
  rw [fillD_cons, hi]
  simp only [hc, List.length_singleton, List.all_cons, h1, List.all_nil, Bool.and_true]
  rw [if_pos ⟨trivial, trivial, by omega⟩, e]
section
variable {offs : List (Nat × Nat)} {cells : List AV} {i o : Nat} {rest : List (Nat × AV)}
def partD1 (offs : List (Nat × Nat)) (cells : List AV) (i : Nat) (a : AV) (rest : List (Nat × AV)) : Option (List AV) :=
  match offs[i]? with
  | some (o, 1) => if o < cells.length then fillD offs (cells.set o a) rest else none
  | _ => none
theorem fillD_part {a : AV} (hc : a.cells = [a]) (h1 : a.one = true) : fillD offs cells ((i, a) :: rest) = partD1 offs cells i a rest := by
  unfold partD1
  cases hi : offs[i]? with
  | none => unfold fillD; rw [hi]
  | some q =>
    obtain ⟨o, n⟩ := q
    by_cases hn : n = 1
    · subst hn
      simp only
      by_cases ho : o < cells.length
      · rw [if_pos ho]; exact fillD_one hi ho hc h1
      · rw [if_neg ho]
        unfold fillD
        rw [hi]
        simp only [hc]
        rw [if_neg]
        rintro ⟨_, _, h⟩
        omega
    · have : fillD offs cells ((i, a) :: rest) = none := by
        unfold fillD
        rw [hi]
        simp only [hc]
        rw [if_neg]
        rintro ⟨h, _⟩
        exact hn (by simpa using h.symm)
      rw [this]
      split
      · rename_i h; injection h with h; injection h with h1 h2; exact absurd h2 hn
      · rfl
@[go_sem] theorem fillD_v {y : Value} : fillD offs cells ((i, .v y) :: rest) = partD1 offs cells i (.v y) rest := fillD_part rfl rfl
@[go_sem] theorem fillD_str {l : List UInt8} : fillD offs cells ((i, AV.str l) :: rest) = partD1 offs cells i (AV.str l) rest := fillD_part rfl rfl
@[go_sem] theorem fillD_sl {l : List AV} : fillD offs cells ((i, .sl l) :: rest) = partD1 offs cells i (.sl l) rest := fillD_part rfl rfl
@[go_sem] theorem fillD_ptr {j f : Nat} : fillD offs cells ((i, .ptr j f) :: rest) = partD1 offs cells i (.ptr j f) rest := fillD_part rfl rfl
@[go_sem] theorem fillD_mp {j : Nat} : fillD offs cells ((i, .mp j) :: rest) = partD1 offs cells i (.mp j) rest := fillD_part rfl rfl
end
end

/-! ### What was read ahead of an effect, and behind one -/
section
variable {P : Program} {e : Env} {H : Heap} {i : Nat} {a : AV} {H' : Heap} {all : K (Array Oper)} {Q : Seen → Prop} {sn : List (Nat × Heap)} {x : Nat × TypeId × AV × AV} {ls : List (Nat × TypeId × AV × AV)} {s : Nat × Heap}
/-- What was read stands as it stood, or the order is bound. -/
def loadSame (r : Option AV) (a : AV) (q : Prop) : Prop := q ∨ r = some a
@[go_sem] theorem loadSame_ok {a : AV} {q : Prop} : loadSame (some a) a q = True := by simp [loadSame]
def LoadOK1 (P : Program) (all : Array Oper) (i : Nat) (H' : Heap) (x : Nat × TypeId × AV × AV) : Prop := reachE all 8 i x.1 = true ∨ loadA P H' x.2.1 x.2.2.1 = some x.2.2.2
@[go_sem] theorem LoadOK1_D {al : Array Oper} {k : Nat} {t : TypeId} {p v : AV} : LoadOK1 P al i H' (k, t, p, v) = loadSame (loadA P H' t p) v (reachE al 8 i k = true) := rfl
@[go_sem] theorem LoadsOK_nil {al : Array Oper} : LoadsOK P al i H' [] = True := by simp [LoadsOK]
@[go_sem] theorem LoadsOK_cons {al : Array Oper} : LoadsOK P al i H' (x :: ls) = (LoadOK1 P al i H' x ∧ LoadsOK P al i H' ls) := by simp [LoadsOK, LoadOK1]
attribute [go_sem] true_and
theorem seenR_effI {o : Op} (h1 : ∀ t p, o ≠ .load t p) (h2 : effOp o = true) : @seenR P i e { snaps := sn, loads := ls } a H H' o all ⟨Q⟩ = (LoadsOK P all.v i H' ls ∧ Q { snaps := (i, H) :: sn, loads := ls }) := by
  unfold seenR
  by_cases h : LoadsOK P all.v i H' ls
  · have : seenOK P all.v i e { snaps := sn, loads := ls } o a H H' = some { snaps := (i, H) :: sn, loads := ls } := by
      unfold seenOK
      split
      · exact absurd rfl (h1 _ _)
      · cases h2
      · rw [if_pos h2, if_pos (fun l hl => h l hl)]
    rw [this, bindP_some]
    exact propext ⟨fun q => ⟨h, q⟩, fun q => q.2⟩
  · have : seenOK P all.v i e { snaps := sn, loads := ls } o a H H' = none := by
      unfold seenOK
      split
      · exact absurd rfl (h1 _ _)
      · cases h2
      · rw [if_pos h2, if_neg (fun hl => h (fun l hm => hl l hm))]
    rw [this]
    refine propext ⟨fun q => ?_, fun q => absurd q.1 h⟩
    obtain ⟨_, hh, _⟩ := q
    cases hh
section
@[go_sem] theorem seenR_assignL {x' : Operand} : @seenR P i e { snaps := sn, loads := x :: ls } a H H' (.assign x') all ⟨Q⟩ = (LoadsOK P all.v i H' (x :: ls) ∧ Q { snaps := (i, H) :: sn, loads := x :: ls }) := seenR_effI (by simp) rfl
@[go_sem] theorem seenR_storeL {t : TypeId} {x' y : Operand} : @seenR P i e { snaps := sn, loads := x :: ls } a H H' (.store t x' y) all ⟨Q⟩ = (LoadsOK P all.v i H' (x :: ls) ∧ Q { snaps := (i, H) :: sn, loads := x :: ls }) := seenR_effI (by simp) rfl
@[go_sem] theorem seenR_buildSliceL {t n : Nat} {ps : Array (Nat × Operand)} : @seenR P i e { snaps := sn, loads := x :: ls } a H H' (.buildSlice t n ps) all ⟨Q⟩ = (LoadsOK P all.v i H' (x :: ls) ∧ Q { snaps := (i, H) :: sn, loads := x :: ls }) := seenR_effI (by simp) rfl
@[go_sem] theorem seenR_appendL {x' : Array Operand} {ts : Array TypeId} : @seenR P i e { snaps := sn, loads := x :: ls } a H H' (.call { callee := .builtin .append, args := x', argTypes := ts }) all ⟨Q⟩ = (LoadsOK P all.v i H' (x :: ls) ∧ Q { snaps := (i, H) :: sn, loads := x :: ls }) := seenR_effI (by simp) rfl
@[go_sem] theorem seenR_callL {f : Operand} {x' : Array Operand} {ts : Array TypeId} : @seenR P i e { snaps := sn, loads := x :: ls } a H H' (.call { callee := .value f, args := x', argTypes := ts }) all ⟨Q⟩ = (LoadsOK P all.v i H' (x :: ls) ∧ Q { snaps := (i, H) :: sn, loads := x :: ls }) := seenR_effI (by simp) rfl
@[go_sem] theorem seenR_lookupL {t : TypeId} {x' y : Operand} {c : Bool} : @seenR P i e { snaps := sn, loads := x :: ls } a H H' (.lookup t x' y c) all ⟨Q⟩ = (LoadsOK P all.v i H' (x :: ls) ∧ Q { snaps := (i, H) :: sn, loads := x :: ls }) := seenR_effI (by simp) rfl
@[go_sem] theorem seenR_mapUpdateL {t : TypeId} {x' y z : Operand} : @seenR P i e { snaps := sn, loads := x :: ls } a H H' (.mapUpdate t x' y z) all ⟨Q⟩ = (LoadsOK P all.v i H' (x :: ls) ∧ Q { snaps := (i, H) :: sn, loads := x :: ls }) := seenR_effI (by simp) rfl
end
/-- A load behind effects. -/
def SnapsOK (P : Program) (all : Array Oper) (i : Nat) (t : TypeId) (p a : AV) (l : List (Nat × Heap)) : Prop := ∀ s ∈ l, reachL all i s.1 = true ∨ loadA P s.2 t p = some a
def SnapOK1 (P : Program) (all : Array Oper) (i : Nat) (t : TypeId) (p a : AV) (s : Nat × Heap) : Prop := reachL all i s.1 = true ∨ loadA P s.2 t p = some a
@[go_sem] theorem SnapOK1_D {al : Array Oper} {k : Nat} {t : TypeId} {p v : AV} : SnapOK1 P al i t p v (k, H') = loadSame (loadA P H' t p) v (reachL al i k = true) := rfl
@[go_sem] theorem SnapsOK_nil {al : Array Oper} {t : TypeId} {p : AV} : SnapsOK P al i t p a [] = True := by simp [SnapsOK]
@[go_sem] theorem SnapsOK_cons {al : Array Oper} {t : TypeId} {p : AV} : SnapsOK P al i t p a (s :: sn) = (SnapOK1 P al i t p a s ∧ SnapsOK P al i t p a sn) := by simp [SnapsOK, SnapOK1]
@[go_sem] theorem seenS_nilA {al : Array Oper} {t : TypeId} {S : Seen} : @seenS P al i t nilA S H ⟨Q⟩ = Q S := rfl
@[go_sem] theorem seenS_bytes {al : Array Oper} {t : TypeId} {S : Seen} {x : List UInt8} : @seenS P al i t (AV.bytes x) S H ⟨Q⟩ = Q S := rfl
@[go_sem] theorem seenS_str {al : Array Oper} {t : TypeId} {x : List UInt8} {S : Seen} : @seenS P al i t (AV.str x) S H ⟨Q⟩ = Q S := rfl
@[go_sem] theorem seenS_ptr {al : Array Oper} {t : TypeId} {j off : Nat} : @seenS P al i t (.ptr j off) { snaps := sn, loads := ls } H ⟨Q⟩ = @bindP _ (loadA P H t (.ptr j off)) ⟨fun r => SnapsOK P al i t (.ptr j off) r sn ∧ Q { snaps := sn, loads := (i, t, .ptr j off, r) :: ls }⟩ := rfl
@[go_sem] theorem seenR_loadL {t : TypeId} {p : Operand} : @seenR P i e { snaps := s :: sn, loads := ls } a H H' (.load t p) all ⟨Q⟩ = (SnapsOK P all.v i t (ev e p) a (s :: sn) ∧ Q { snaps := s :: sn, loads := (i, t, ev e p, a) :: ls }) := by
  unfold seenR
  by_cases h : SnapsOK P all.v i t (ev e p) a (s :: sn)
  · have : seenOK P all.v i e { snaps := s :: sn, loads := ls } (.load t p) a H H' = some { snaps := s :: sn, loads := (i, t, ev e p, a) :: ls } := by
      unfold seenOK
      simp only
      rw [if_pos (fun l hl => h l hl)]
    rw [this, bindP_some]
    exact propext ⟨fun q => ⟨h, q⟩, fun q => q.2⟩
  · have : seenOK P all.v i e { snaps := s :: sn, loads := ls } (.load t p) a H H' = none := by
      unfold seenOK
      simp only
      rw [if_neg (fun hl => h (fun l hm => hl l hm))]
    rw [this]
    refine propext ⟨fun q => ?_, fun q => absurd q.1 h⟩
    obtain ⟨_, hh, _⟩ := q
    cases hh
end
section
variable {a1 a2 a3 a4 a5 a6 a7 a8 a9 : AV}
@[go_sem] theorem take_2 : (if 2 ≤ ([a1, a2] : List AV).length then some (AV.agg (List.take 2 [a1, a2])) else none) = some (.agg [a1, a2]) := rfl
@[go_sem] theorem take_3 : (if 3 ≤ ([a1, a2, a3] : List AV).length then some (AV.agg (List.take 3 [a1, a2, a3])) else none) = some (.agg [a1, a2, a3]) := rfl
@[go_sem] theorem take_4 : (if 4 ≤ ([a1, a2, a3, a4] : List AV).length then some (AV.agg (List.take 4 [a1, a2, a3, a4])) else none) = some (.agg [a1, a2, a3, a4]) := rfl
@[go_sem] theorem take_5 : (if 5 ≤ ([a1, a2, a3, a4, a5] : List AV).length then some (AV.agg (List.take 5 [a1, a2, a3, a4, a5])) else none) = some (.agg [a1, a2, a3, a4, a5]) := rfl
@[go_sem] theorem take_6 : (if 6 ≤ ([a1, a2, a3, a4, a5, a6] : List AV).length then some (AV.agg (List.take 6 [a1, a2, a3, a4, a5, a6])) else none) = some (.agg [a1, a2, a3, a4, a5, a6]) := rfl
@[go_sem] theorem take_7 : (if 7 ≤ ([a1, a2, a3, a4, a5, a6, a7] : List AV).length then some (AV.agg (List.take 7 [a1, a2, a3, a4, a5, a6, a7])) else none) = some (.agg [a1, a2, a3, a4, a5, a6, a7]) := rfl
@[go_sem] theorem take_8 : (if 8 ≤ ([a1, a2, a3, a4, a5, a6, a7, a8] : List AV).length then some (AV.agg (List.take 8 [a1, a2, a3, a4, a5, a6, a7, a8])) else none) = some (.agg [a1, a2, a3, a4, a5, a6, a7, a8]) := rfl
@[go_sem] theorem take_9 : (if 9 ≤ ([a1, a2, a3, a4, a5, a6, a7, a8, a9] : List AV).length then some (AV.agg (List.take 9 [a1, a2, a3, a4, a5, a6, a7, a8, a9])) else none) = some (.agg [a1, a2, a3, a4, a5, a6, a7, a8, a9]) := rfl
end

@[go_sem] theorem resV_ct {P : Program} {a t u : Nat} {e : Env} {H : Heap} : resV P #[.cell a t, .tmp u] e H = (loadA P H t (e a)).map fun x => .tup [x, e u] := by
  cases h : loadA P H t (e a) <;> simp [resV, resA, h]
@[go_sem] theorem option_map_some {α β : Type} {x : α} {f : α → β} : Option.map f (some x) = some (f x) := rfl

/-! ### May all stand in memory? -/
def oneD {α : Type} (l : List AV) (r : α) : Option α := if l.all AV.one = true then some r else none
section
variable {α : Type} {l : List AV} {r : α}
theorem oneD_fold : (if l.all AV.one = true then some r else none) = oneD l r := rfl
@[go_sem] theorem oneD_nil : oneD [] r = some r := rfl
theorem oneD_cons {a : AV} (h : a.one = true) : oneD (a :: l) r = oneD l r := by unfold oneD; rw [List.all_cons, h, Bool.true_and]
@[go_sem] theorem oneD_v {y : Value} : oneD (.v y :: l) r = oneD l r := oneD_cons rfl
@[go_sem] theorem oneD_str {s : List UInt8} : oneD (AV.str s :: l) r = oneD l r := oneD_cons rfl
@[go_sem] theorem oneD_sl {s : List AV} : oneD (.sl s :: l) r = oneD l r := oneD_cons rfl
@[go_sem] theorem oneD_nilA : oneD (nilA :: l) r = oneD l r := oneD_cons rfl
@[go_sem] theorem oneD_mp {j : Nat} : oneD (.mp j :: l) r = oneD l r := oneD_cons rfl
end

/-! ### Places written -/
section
variable {P : Program} {H : Heap} {t : TypeId} {j off i : Nat} {a x : AV} {cs ds : List AV}
def storeC (P : Program) (t : TypeId) (H : Heap) (j off : Nat) (a : AV) (cs : List AV) : Option Heap :=
  (sizeT P t).bind fun n => if a.cells.length = n ∧ a.cells.all AV.one = true ∧ off + n ≤ cs.length ∧ 0 < n ∧ plainRow cs = true then some (H.set j (cs.take off ++ a.cells ++ cs.drop (off + n))) else none
theorem store_ptr : storeA P H t (.ptr j off) a = (H[j]?).bind (storeC P t H j off a) := by
  unfold storeA storeC
  cases h : sizeT P t with
  | none => cases H[j]? <;> rfl
  | some n => rfl
theorem storeC_one [hs : SizeIs P t 1] (hc : a.cells = [a]) (h1 : a.one = true) : storeC P t H j off a cs = if off < cs.length then (if plainRow cs = true then some (H.set j (cs.set off a)) else none) else none := by
  unfold storeC
  simp only [hs.h, Option.bind_some, hc]
  by_cases ho : off < cs.length
  · rw [if_pos ho]
    by_cases hp : plainRow cs = true
    · have e : cs.take off ++ [a] ++ cs.drop (off + 1) = cs.set off a := by rw [List.set_eq_take_append_cons_drop, if_pos ho, List.append_assoc, List.singleton_append]
      rw [if_pos hp, if_pos ⟨rfl, by simp [h1], by omega, by omega, hp⟩, e]
    · rw [if_neg hp, if_neg (fun h => hp h.2.2.2.2)]
  · rw [if_neg ho, if_neg (fun h => by omega)]
def storeS (H : Heap) (j off : Nat) (a : AV) (cs : List AV) : Option Heap := if off < cs.length then (if plainRow cs = true then some (H.set j (cs.set off a)) else none) else none
@[go_sem] theorem storeC_v {y : Value} [hs : SizeIs P t 1] : storeC P t H j off (.v y) cs = storeS H j off (.v y) cs := storeC_one rfl rfl
@[go_sem] theorem storeC_sl {l : List AV} [hs : SizeIs P t 1] : storeC P t H j off (.sl l) cs = storeS H j off (.sl l) cs := storeC_one rfl rfl
@[go_sem] theorem storeC_ow {l : List AV} {k : Nat} [hs : SizeIs P t 1] : storeC P t H j off (.ow l k) cs = storeS H j off (.ow l k) cs := storeC_one rfl rfl
@[go_sem] theorem storeC_nilA [hs : SizeIs P t 1] : storeC P t H j off nilA cs = storeS H j off nilA cs := storeC_one rfl rfl
@[go_sem] theorem storeC_mp {k : Nat} [hs : SizeIs P t 1] : storeC P t H j off (.mp k) cs = storeS H j off (.mp k) cs := storeC_one rfl rfl
/-- A struct as a whole. -/
theorem storeC_A {n : Nat} {xs : List AV} [hs : SizeIs P t n] : storeC P t H j 0 (.agg xs) cs = if xs.length = n ∧ xs.all AV.one = true ∧ 0 + n ≤ cs.length ∧ 0 < n ∧ plainRow cs = true then some (H.set j (cs.take 0 ++ xs ++ cs.drop (0 + n))) else none := by
  unfold storeC
  rw [hs.h]
  rfl
def storeG (H : Heap) (j : Nat) (xs cs : List AV) : Option Heap := if xs.all AV.one = true ∧ plainRow cs = true then some (H.set j xs) else none
theorem storeC_G {n : Nat} {xs : List AV} [hs : SizeIs P t n] (h0 : 0 < n) (hx : xs.length = n) (hc : cs.length = n) : storeC P t H j 0 (.agg xs) cs = storeG H j xs cs := by
  unfold storeG
  rw [storeC_A (n := n)]
  by_cases h : xs.all AV.one = true ∧ plainRow cs = true
  · rw [if_pos h, if_pos ⟨hx, h.1, by omega, h0, h.2⟩, List.take_zero, List.nil_append, Nat.zero_add, List.drop_of_length_le (by omega), List.append_nil]
  · rw [if_neg h, if_neg (fun h' => h ⟨h'.2.1, h'.2.2.2.2⟩)]
theorem get_end_ (cs : List AV) : (H ++ [cs])[H.length]? = some cs := by rw [List.getElem?_append_right (Nat.le_refl _), Nat.sub_self]; rfl
theorem get_old_ (h : i < H.length) : (H ++ [cs])[i]? = H[i]? := List.getElem?_append_left h
theorem get_set_self_ : (H.set j cs)[j]? = (H[j]?).map fun _ => cs := by
  rw [List.getElem?_set]
  simp only [if_pos]
  split
  · rename_i h; rw [List.getElem?_eq_getElem h]; rfl
  · rename_i h; rw [List.getElem?_eq_none (by omega)]; rfl
theorem get_set_ne_ (h : j ≠ i) : (H.set j cs)[i]? = H[i]? := List.getElem?_set_ne h
theorem len_set_ : (H.set j cs).length = H.length := List.length_set
theorem len_add_ : (H ++ [cs]).length = H.length + 1 := by simp
theorem bind_some_ {α β : Type} {x : α} {f : α → Option β} : (some x).bind f = f x := rfl
theorem map_some_ {α β : Type} {x : α} {f : α → β} : (some x).map f = some (f x) := rfl
end
section
variable {H : Heap} {j : Nat} {x a1 a2 a3 a4 a5 a6 a7 a8 a9 : AV}
@[go_sem] theorem storeS_4_2 : storeS H j 2 x [a1, a2, a3, a4] = some (H.set j [a1, a2, x, a4]) := by unfold storeS; rw [if_pos (by simp), if_pos (by unfold plainRow; cases a1 <;> rfl)]; rfl
@[go_sem] theorem storeS_4_3 : storeS H j 3 x [a1, a2, a3, a4] = some (H.set j [a1, a2, a3, x]) := by unfold storeS; rw [if_pos (by simp), if_pos (by unfold plainRow; cases a1 <;> rfl)]; rfl
@[go_sem] theorem storeC_agg_4 {P : Program} {t : TypeId} {b1 b2 b3 b4 : AV} [hs : SizeIs P t 4] : storeC P t H j 0 (.agg [b1, b2, b3, b4]) [a1, a2, a3, a4] = oneD [b1, b2, b3, b4] (H.set j [b1, b2, b3, b4]) := by
  rw [storeC_G (n := 4) (by decide) rfl rfl]
  unfold storeG oneD
  have : plainRow [a1, a2, a3, a4] = true := by unfold plainRow; cases a1 <;> rfl
  simp only [this, and_true]
@[go_sem] theorem storeS_5_2 : storeS H j 2 x [a1, a2, a3, a4, a5] = some (H.set j [a1, a2, x, a4, a5]) := by unfold storeS; rw [if_pos (by simp), if_pos (by unfold plainRow; cases a1 <;> rfl)]; rfl
@[go_sem] theorem storeC_agg_5 {P : Program} {t : TypeId} {b1 b2 b3 b4 b5 : AV} [hs : SizeIs P t 5] : storeC P t H j 0 (.agg [b1, b2, b3, b4, b5]) [a1, a2, a3, a4, a5] = oneD [b1, b2, b3, b4, b5] (H.set j [b1, b2, b3, b4, b5]) := by
  rw [storeC_G (n := 5) (by decide) rfl rfl]
  unfold storeG oneD
  have : plainRow [a1, a2, a3, a4, a5] = true := by unfold plainRow; cases a1 <;> rfl
  simp only [this, and_true]
@[go_sem] theorem storeS_7_0 : storeS H j 0 x [a1, a2, a3, a4, a5, a6, a7] = some (H.set j [x, a2, a3, a4, a5, a6, a7]) := by unfold storeS; rw [if_pos (by simp), if_pos (by unfold plainRow; cases a1 <;> rfl)]; rfl
@[go_sem] theorem storeS_7_1 : storeS H j 1 x [a1, a2, a3, a4, a5, a6, a7] = some (H.set j [a1, x, a3, a4, a5, a6, a7]) := by unfold storeS; rw [if_pos (by simp), if_pos (by unfold plainRow; cases a1 <;> rfl)]; rfl
@[go_sem] theorem storeS_7_2 : storeS H j 2 x [a1, a2, a3, a4, a5, a6, a7] = some (H.set j [a1, a2, x, a4, a5, a6, a7]) := by unfold storeS; rw [if_pos (by simp), if_pos (by unfold plainRow; cases a1 <;> rfl)]; rfl
@[go_sem] theorem storeS_7_3 : storeS H j 3 x [a1, a2, a3, a4, a5, a6, a7] = some (H.set j [a1, a2, a3, x, a5, a6, a7]) := by unfold storeS; rw [if_pos (by simp), if_pos (by unfold plainRow; cases a1 <;> rfl)]; rfl
@[go_sem] theorem storeS_7_4 : storeS H j 4 x [a1, a2, a3, a4, a5, a6, a7] = some (H.set j [a1, a2, a3, a4, x, a6, a7]) := by unfold storeS; rw [if_pos (by simp), if_pos (by unfold plainRow; cases a1 <;> rfl)]; rfl
@[go_sem] theorem storeS_7_5 : storeS H j 5 x [a1, a2, a3, a4, a5, a6, a7] = some (H.set j [a1, a2, a3, a4, a5, x, a7]) := by unfold storeS; rw [if_pos (by simp), if_pos (by unfold plainRow; cases a1 <;> rfl)]; rfl
@[go_sem] theorem storeS_7_6 : storeS H j 6 x [a1, a2, a3, a4, a5, a6, a7] = some (H.set j [a1, a2, a3, a4, a5, a6, x]) := by unfold storeS; rw [if_pos (by simp), if_pos (by unfold plainRow; cases a1 <;> rfl)]; rfl
end
section
variable {a1 a2 a3 a4 a5 a6 a7 a8 a9 x : AV} {rest : List (Nat × AV)}
@[go_sem] theorem partD1_1_0 : partD1 [(0, 1)] [a1] 0 x rest = fillD [(0, 1)] [x] rest := rfl
@[go_sem] theorem partD1_2_0 : partD1 [(0, 1), (1, 1)] [a1, a2] 0 x rest = fillD [(0, 1), (1, 1)] [x, a2] rest := rfl
@[go_sem] theorem partD1_2_1 : partD1 [(0, 1), (1, 1)] [a1, a2] 1 x rest = fillD [(0, 1), (1, 1)] [a1, x] rest := rfl
@[go_sem] theorem partD1_3_0 : partD1 [(0, 1), (1, 1), (2, 1)] [a1, a2, a3] 0 x rest = fillD [(0, 1), (1, 1), (2, 1)] [x, a2, a3] rest := rfl
@[go_sem] theorem partD1_3_1 : partD1 [(0, 1), (1, 1), (2, 1)] [a1, a2, a3] 1 x rest = fillD [(0, 1), (1, 1), (2, 1)] [a1, x, a3] rest := rfl
@[go_sem] theorem partD1_3_2 : partD1 [(0, 1), (1, 1), (2, 1)] [a1, a2, a3] 2 x rest = fillD [(0, 1), (1, 1), (2, 1)] [a1, a2, x] rest := rfl
@[go_sem] theorem partD1_4_0 : partD1 [(0, 1), (1, 1), (2, 1), (3, 1)] [a1, a2, a3, a4] 0 x rest = fillD [(0, 1), (1, 1), (2, 1), (3, 1)] [x, a2, a3, a4] rest := rfl
@[go_sem] theorem partD1_4_1 : partD1 [(0, 1), (1, 1), (2, 1), (3, 1)] [a1, a2, a3, a4] 1 x rest = fillD [(0, 1), (1, 1), (2, 1), (3, 1)] [a1, x, a3, a4] rest := rfl
@[go_sem] theorem partD1_4_2 : partD1 [(0, 1), (1, 1), (2, 1), (3, 1)] [a1, a2, a3, a4] 2 x rest = fillD [(0, 1), (1, 1), (2, 1), (3, 1)] [a1, a2, x, a4] rest := rfl
@[go_sem] theorem partD1_4_3 : partD1 [(0, 1), (1, 1), (2, 1), (3, 1)] [a1, a2, a3, a4] 3 x rest = fillD [(0, 1), (1, 1), (2, 1), (3, 1)] [a1, a2, a3, x] rest := rfl
@[go_sem] theorem partD1_5_0 : partD1 [(0, 1), (1, 1), (2, 1), (3, 1), (4, 1)] [a1, a2, a3, a4, a5] 0 x rest = fillD [(0, 1), (1, 1), (2, 1), (3, 1), (4, 1)] [x, a2, a3, a4, a5] rest := rfl
@[go_sem] theorem partD1_5_1 : partD1 [(0, 1), (1, 1), (2, 1), (3, 1), (4, 1)] [a1, a2, a3, a4, a5] 1 x rest = fillD [(0, 1), (1, 1), (2, 1), (3, 1), (4, 1)] [a1, x, a3, a4, a5] rest := rfl
@[go_sem] theorem partD1_5_2 : partD1 [(0, 1), (1, 1), (2, 1), (3, 1), (4, 1)] [a1, a2, a3, a4, a5] 2 x rest = fillD [(0, 1), (1, 1), (2, 1), (3, 1), (4, 1)] [a1, a2, x, a4, a5] rest := rfl
@[go_sem] theorem partD1_5_3 : partD1 [(0, 1), (1, 1), (2, 1), (3, 1), (4, 1)] [a1, a2, a3, a4, a5] 3 x rest = fillD [(0, 1), (1, 1), (2, 1), (3, 1), (4, 1)] [a1, a2, a3, x, a5] rest := rfl
@[go_sem] theorem partD1_5_4 : partD1 [(0, 1), (1, 1), (2, 1), (3, 1), (4, 1)] [a1, a2, a3, a4, a5] 4 x rest = fillD [(0, 1), (1, 1), (2, 1), (3, 1), (4, 1)] [a1, a2, a3, a4, x] rest := rfl
@[go_sem] theorem partD1_6_0 : partD1 [(0, 1), (1, 1), (2, 1), (3, 1), (4, 1), (5, 1)] [a1, a2, a3, a4, a5, a6] 0 x rest = fillD [(0, 1), (1, 1), (2, 1), (3, 1), (4, 1), (5, 1)] [x, a2, a3, a4, a5, a6] rest := rfl
@[go_sem] theorem partD1_6_1 : partD1 [(0, 1), (1, 1), (2, 1), (3, 1), (4, 1), (5, 1)] [a1, a2, a3, a4, a5, a6] 1 x rest = fillD [(0, 1), (1, 1), (2, 1), (3, 1), (4, 1), (5, 1)] [a1, x, a3, a4, a5, a6] rest := rfl
@[go_sem] theorem partD1_6_2 : partD1 [(0, 1), (1, 1), (2, 1), (3, 1), (4, 1), (5, 1)] [a1, a2, a3, a4, a5, a6] 2 x rest = fillD [(0, 1), (1, 1), (2, 1), (3, 1), (4, 1), (5, 1)] [a1, a2, x, a4, a5, a6] rest := rfl
@[go_sem] theorem partD1_6_3 : partD1 [(0, 1), (1, 1), (2, 1), (3, 1), (4, 1), (5, 1)] [a1, a2, a3, a4, a5, a6] 3 x rest = fillD [(0, 1), (1, 1), (2, 1), (3, 1), (4, 1), (5, 1)] [a1, a2, a3, x, a5, a6] rest := rfl
@[go_sem] theorem partD1_6_4 : partD1 [(0, 1), (1, 1), (2, 1), (3, 1), (4, 1), (5, 1)] [a1, a2, a3, a4, a5, a6] 4 x rest = fillD [(0, 1), (1, 1), (2, 1), (3, 1), (4, 1), (5, 1)] [a1, a2, a3, a4, x, a6] rest := rfl
@[go_sem] theorem partD1_6_5 : partD1 [(0, 1), (1, 1), (2, 1), (3, 1), (4, 1), (5, 1)] [a1, a2, a3, a4, a5, a6] 5 x rest = fillD [(0, 1), (1, 1), (2, 1), (3, 1), (4, 1), (5, 1)] [a1, a2, a3, a4, a5, x] rest := rfl
@[go_sem] theorem partD1_7_0 : partD1 [(0, 1), (1, 1), (2, 1), (3, 1), (4, 1), (5, 1), (6, 1)] [a1, a2, a3, a4, a5, a6, a7] 0 x rest = fillD [(0, 1), (1, 1), (2, 1), (3, 1), (4, 1), (5, 1), (6, 1)] [x, a2, a3, a4, a5, a6, a7] rest := rfl
@[go_sem] theorem partD1_7_1 : partD1 [(0, 1), (1, 1), (2, 1), (3, 1), (4, 1), (5, 1), (6, 1)] [a1, a2, a3, a4, a5, a6, a7] 1 x rest = fillD [(0, 1), (1, 1), (2, 1), (3, 1), (4, 1), (5, 1), (6, 1)] [a1, x, a3, a4, a5, a6, a7] rest := rfl
@[go_sem] theorem partD1_7_2 : partD1 [(0, 1), (1, 1), (2, 1), (3, 1), (4, 1), (5, 1), (6, 1)] [a1, a2, a3, a4, a5, a6, a7] 2 x rest = fillD [(0, 1), (1, 1), (2, 1), (3, 1), (4, 1), (5, 1), (6, 1)] [a1, a2, x, a4, a5, a6, a7] rest := rfl
@[go_sem] theorem partD1_7_3 : partD1 [(0, 1), (1, 1), (2, 1), (3, 1), (4, 1), (5, 1), (6, 1)] [a1, a2, a3, a4, a5, a6, a7] 3 x rest = fillD [(0, 1), (1, 1), (2, 1), (3, 1), (4, 1), (5, 1), (6, 1)] [a1, a2, a3, x, a5, a6, a7] rest := rfl
@[go_sem] theorem partD1_7_4 : partD1 [(0, 1), (1, 1), (2, 1), (3, 1), (4, 1), (5, 1), (6, 1)] [a1, a2, a3, a4, a5, a6, a7] 4 x rest = fillD [(0, 1), (1, 1), (2, 1), (3, 1), (4, 1), (5, 1), (6, 1)] [a1, a2, a3, a4, x, a6, a7] rest := rfl
@[go_sem] theorem partD1_7_5 : partD1 [(0, 1), (1, 1), (2, 1), (3, 1), (4, 1), (5, 1), (6, 1)] [a1, a2, a3, a4, a5, a6, a7] 5 x rest = fillD [(0, 1), (1, 1), (2, 1), (3, 1), (4, 1), (5, 1), (6, 1)] [a1, a2, a3, a4, a5, x, a7] rest := rfl
@[go_sem] theorem partD1_7_6 : partD1 [(0, 1), (1, 1), (2, 1), (3, 1), (4, 1), (5, 1), (6, 1)] [a1, a2, a3, a4, a5, a6, a7] 6 x rest = fillD [(0, 1), (1, 1), (2, 1), (3, 1), (4, 1), (5, 1), (6, 1)] [a1, a2, a3, a4, a5, a6, x] rest := rfl
@[go_sem] theorem partD1_8_0 : partD1 [(0, 1), (1, 1), (2, 1), (3, 1), (4, 1), (5, 1), (6, 1), (7, 1)] [a1, a2, a3, a4, a5, a6, a7, a8] 0 x rest = fillD [(0, 1), (1, 1), (2, 1), (3, 1), (4, 1), (5, 1), (6, 1), (7, 1)] [x, a2, a3, a4, a5, a6, a7, a8] rest := rfl
@[go_sem] theorem partD1_8_1 : partD1 [(0, 1), (1, 1), (2, 1), (3, 1), (4, 1), (5, 1), (6, 1), (7, 1)] [a1, a2, a3, a4, a5, a6, a7, a8] 1 x rest = fillD [(0, 1), (1, 1), (2, 1), (3, 1), (4, 1), (5, 1), (6, 1), (7, 1)] [a1, x, a3, a4, a5, a6, a7, a8] rest := rfl
@[go_sem] theorem partD1_8_2 : partD1 [(0, 1), (1, 1), (2, 1), (3, 1), (4, 1), (5, 1), (6, 1), (7, 1)] [a1, a2, a3, a4, a5, a6, a7, a8] 2 x rest = fillD [(0, 1), (1, 1), (2, 1), (3, 1), (4, 1), (5, 1), (6, 1), (7, 1)] [a1, a2, x, a4, a5, a6, a7, a8] rest := rfl
@[go_sem] theorem partD1_8_3 : partD1 [(0, 1), (1, 1), (2, 1), (3, 1), (4, 1), (5, 1), (6, 1), (7, 1)] [a1, a2, a3, a4, a5, a6, a7, a8] 3 x rest = fillD [(0, 1), (1, 1), (2, 1), (3, 1), (4, 1), (5, 1), (6, 1), (7, 1)] [a1, a2, a3, x, a5, a6, a7, a8] rest := rfl
@[go_sem] theorem partD1_8_4 : partD1 [(0, 1), (1, 1), (2, 1), (3, 1), (4, 1), (5, 1), (6, 1), (7, 1)] [a1, a2, a3, a4, a5, a6, a7, a8] 4 x rest = fillD [(0, 1), (1, 1), (2, 1), (3, 1), (4, 1), (5, 1), (6, 1), (7, 1)] [a1, a2, a3, a4, x, a6, a7, a8] rest := rfl
@[go_sem] theorem partD1_8_5 : partD1 [(0, 1), (1, 1), (2, 1), (3, 1), (4, 1), (5, 1), (6, 1), (7, 1)] [a1, a2, a3, a4, a5, a6, a7, a8] 5 x rest = fillD [(0, 1), (1, 1), (2, 1), (3, 1), (4, 1), (5, 1), (6, 1), (7, 1)] [a1, a2, a3, a4, a5, x, a7, a8] rest := rfl
@[go_sem] theorem partD1_8_6 : partD1 [(0, 1), (1, 1), (2, 1), (3, 1), (4, 1), (5, 1), (6, 1), (7, 1)] [a1, a2, a3, a4, a5, a6, a7, a8] 6 x rest = fillD [(0, 1), (1, 1), (2, 1), (3, 1), (4, 1), (5, 1), (6, 1), (7, 1)] [a1, a2, a3, a4, a5, a6, x, a8] rest := rfl
@[go_sem] theorem partD1_8_7 : partD1 [(0, 1), (1, 1), (2, 1), (3, 1), (4, 1), (5, 1), (6, 1), (7, 1)] [a1, a2, a3, a4, a5, a6, a7, a8] 7 x rest = fillD [(0, 1), (1, 1), (2, 1), (3, 1), (4, 1), (5, 1), (6, 1), (7, 1)] [a1, a2, a3, a4, a5, a6, a7, x] rest := rfl
end
section
variable {P : Program} {t e : TypeId} {j o : Nat}
@[go_sem] theorem bin_ptr_eql [h : UndIs P t (.pointer e)] : bin P .eql t (.ptr j o) (.v (.pointer none)) = some (.b false) := by unfold bin; simp only [h.h]
@[go_sem] theorem bin_ptr_neq [h : UndIs P t (.pointer e)] : bin P .neq t (.ptr j o) (.v (.pointer none)) = some (.b true) := by unfold bin; simp only [h.h]
@[go_sem] theorem bin_nil_eql [h : UndIs P t (.pointer e)] : bin P .eql t (.v (.pointer none)) (.v (.pointer none)) = some (.b true) := by unfold bin; simp only [h.h]
@[go_sem] theorem bin_nil_neq [h : UndIs P t (.pointer e)] : bin P .neq t (.v (.pointer none)) (.v (.pointer none)) = some (.b false) := by unfold bin; simp only [h.h]
end
/-- The equations of memory, under one name. -/
theorem wdl : (∀ (P : Program) (H : Heap) (t : TypeId) (j off : Nat) (a : AV), storeA P H t (.ptr j off) a = (H[j]?).bind (storeC P t H j off a)) ∧ (∀ (H : Heap) (cs : List AV), (H ++ [cs])[H.length]? = some cs) ∧ (∀ (H : Heap) (cs : List AV) (i : Nat), i < H.length → (H ++ [cs])[i]? = H[i]?) ∧ (∀ (H : Heap) (j : Nat) (cs : List AV), (H.set j cs)[j]? = (H[j]?).map fun _ => cs) ∧ (∀ (H : Heap) (j i : Nat) (cs : List AV), j ≠ i → (H.set j cs)[i]? = H[i]?) ∧ (∀ (H : Heap) (j : Nat) (cs : List AV), (H.set j cs).length = H.length) ∧ (∀ (H : Heap) (cs : List AV), (H ++ [cs]).length = H.length + 1) :=
  ⟨fun _ _ _ _ _ _ => store_ptr, fun _ cs => get_end_ cs, fun _ _ _ h => get_old_ h, fun _ _ _ => get_set_self_, fun _ _ _ _ h => get_set_ne_ h, fun _ _ _ => len_set_, fun _ _ => len_add_⟩
end Go.Lv
set_option linter.unusedVariables false
set_option linter.unusedSimpArgs false
/-! Rows that may be written, of elements of one cell, in steps. -/
namespace Go.Lv
section
variable {P : Program} {H : Heap}

/-- An encoding of one cell without parts. -/
class Cell1 {α : Type} (f : α → AV) : Prop where
  c : ∀ x, (f x).cells = [f x]
  o : ∀ x, (f x).one = true
instance : Cell1 (fun n : Int => AV.v (.int .i64 n)) := ⟨fun _ => rfl, fun _ => rfl⟩
instance : Cell1 byteA := ⟨fun _ => rfl, fun _ => rfl⟩
instance : Cell1 AV.str := ⟨fun _ => rfl, fun _ => rfl⟩

theorem flatMap_cell1 {α : Type} {f : α → AV} [hf : Cell1 f] (xs : List α) : (xs.map f).flatMap AV.cells = xs.map f := by
  induction xs with
  | nil => rfl
  | cons x xs ih => simp [hf.c x, ih]
theorem all_cell1 {α : Type} {f : α → AV} [hf : Cell1 f] (xs : List α) : (xs.map f).all AV.one = true := by
  simp [List.all_eq_true, hf.o]

theorem appendM_mr {α : Type} {f : α → AV} [hf : Cell1 f] {t u el el' : TypeId} {by_ : Nat} {z : List AV} [ht : UndIs P t (.slice el)] [hu : UndIs P u (.slice el')] [hs : SizeIs P el 1] [hb : BytesIs P el by_] [hz : ZeroIs P el z] [ha : AggIs P el false]
    {xs ys : List α} {j len : Nat} (hj : H[j]? = some (xs.map f)) (hl : len ≤ xs.length) (hx : 0 < xs.length) (hzl : z.length = 1) (h0 : 0 < ys.length) (hle : ((len : Int) + ys.length) * (by_ + 1) ≤ 140737488355328) :
    appendM P H t u (.mr j 0 len 1 false) (.sl (ys.map f)) = some (.mr H.length 0 (len + ys.length) 1 false, H.set j [] ++ [(xs.take len ++ ys).map f]) := by
  rw [appendM_cons (by simpa using h0)]
  unfold appendM1
  rw [ht.h, hu.h]
  simp only [hs.h, hb.h, hz.h, ha.h]
  have h1 : ∀ a ∈ ys.map f, a.cells.length = 1 ∧ a.cells.all AV.one = true := by
    intro a h
    obtain ⟨x, _, rfl⟩ := List.mem_map.1 h
    rw [hf.c]; simp [hf.o]
  have h2 : (len + ys.length) * (by_ + 1) ≤ 140737488355328 := by
    have : (((len + ys.length) * (by_ + 1) : Nat) : Int) = ((len : Int) + ys.length) * (by_ + 1) := by push_cast; rfl
    omega
  rw [if_pos ⟨by omega, hzl, h1, by simpa using h0⟩]
  simp only [List.length_map, flatMap_cell1, hj, Option.bind_some, Nat.mul_one]
  rw [if_pos ⟨trivial, trivial, h2, hl, by (intro h; simp at h; rw [h] at hx; simp at hx), plainRow_one (all_cell1 xs), by rw [← List.map_take]; exact all_cell1 _⟩]
  simp

theorem appendM_none {t u el el' : TypeId} {n : Nat} [ht : UndIs P t (.slice el)] [hu : UndIs P u (.slice el')] [hs : SizeIs P el n] {j off len : Nat} {g : Bool} (hn : (0 : Int) < n) : appendM P H t u (.mr j off len n g) (.sl []) = some (.mr j off len n g, H) := by
  show appendM0 P H t u (.mr j off len n g) = _
  unfold appendM0
  rw [ht.h, hu.h]
  simp only [hs.h]
  rw [if_pos ⟨trivial, by omega⟩]
theorem chunk_one : ∀ (k : Nat) (cs : List AV), k ≤ cs.length → chunk false 1 k cs = cs.take k := by
  intro k
  induction k with
  | zero => intro cs _; simp [chunk]
  | succ k ih =>
    intro cs h
    cases cs with
    | nil => simp at h
    | cons c cs => simp only [chunk, List.headD_cons, List.drop_succ_cons, List.drop_zero, List.take_succ_cons]; rw [ih cs (by simpa using h)]; simp

theorem freeze_mr {α : Type} {f : α → AV} [hf : Cell1 f] {xs : List α} {j off len : Nat} (hj : H[j]? = some (xs.map f)) (h0 : 0 < len) (hl : off + len ≤ xs.length) :
    freezeA H (.mr j off len 1 false) = some (.sl (((xs.drop off).take len).map f), H.set j []) := by
  unfold freezeA
  simp only [hj, Option.bind_some, Nat.mul_one, List.length_map]
  rw [if_pos ⟨.inr trivial, h0, hl, all_cell1 xs⟩, chunk_one _ _ (by simp; omega)]
  simp
@[go_sem] theorem freeze_ow {xs : List AV} {j : Nat} : freezeA H (.ow xs j) = some (.sl xs, H) := rfl
@[go_sem] theorem freeze_nil : freezeA H nilA = some (.sl [], H) := rfl

theorem view_mr {α : Type} {f : α → AV} [hf : Cell1 f] {t el : TypeId} [ht : UndIs P t (.slice el)] [hs : SizeIs P el 1] [ha : AggIs P el false] {xs : List α} {j off len : Nat} (hj : H[j]? = some (xs.map f)) (h0 : 0 < len) (hl : off + len ≤ xs.length) :
    viewR P H t (.mr j off len 1 false) = .sl (((xs.drop off).take len).map f) := by
  have e : elemOfT P t = some el := by unfold elemOfT; rw [ht.h]
  simp only [viewR, e, hj]
  rw [if_pos ⟨ha.h, hs.h, .inr trivial, h0, by simpa using hl, all_cell1 xs⟩, chunk_one _ _ (by simp; omega)]
  simp

/-- A row of one-cell elements that may be written, held in memory from n on. -/
def RowOf {α : Type} (f : α → AV) (n : Nat) (H : Heap) (a : AV) (xs : List α) : Prop :=
  (a = nilA ∧ xs = []) ∨ ∃ j, n ≤ j ∧ a = .mr j 0 xs.length 1 false ∧ H[j]? = some (xs.map f) ∧ 0 < xs.length

section
variable {α : Type} {f : α → AV} {n : Nat} {a : AV} {xs : List α}
theorem RowOf.nil : RowOf f n H nilA [] := .inl ⟨rfl, rfl⟩
theorem RowOf.len (h : RowOf f n H a xs) {el : TypeId} : lenD (some (.slice el)) (owA a) = some (.v (.int .i64 xs.length)) := by
  rcases h with ⟨rfl, rfl⟩ | ⟨j, _, rfl, _, _⟩ <;> rfl
theorem RowOf.ow (h : RowOf f n H a xs) : owA a = a := by
  rcases h with ⟨rfl, rfl⟩ | ⟨j, _, rfl, _, _⟩ <;> rfl
theorem pre_set {H0 H' : Heap} (hp : H0 <+: H') {j : Nat} (hj : H0.length ≤ j) (cs cs' : List AV) : H0 <+: H'.set j cs ++ [cs'] := by
  obtain ⟨G, rfl⟩ := hp
  rw [List.set_append_right _ _ hj, List.append_assoc]
  exact ⟨_, rfl⟩
theorem pre_set1 {H0 H' : Heap} (hp : H0 <+: H') {j : Nat} (hj : H0.length ≤ j) (cs : List AV) : H0 <+: H'.set j cs := by
  obtain ⟨G, rfl⟩ := hp
  rw [List.set_append_right _ _ hj]
  exact ⟨_, rfl⟩
theorem pre_add {H0 H' : Heap} (hp : H0 <+: H') (cs : List AV) : H0 <+: H' ++ [cs] := List.IsPrefix.trans hp (List.prefix_append _ _)
theorem pre_len {H0 H' : Heap} (hp : H0 <+: H') : H0.length ≤ H'.length := hp.length_le
theorem get_end {H : Heap} {j : Nat} {cs cs' : List AV} : (H.set j cs ++ [cs'])[H.length]? = some cs' := by
  rw [List.getElem?_append_right (by simp)]; simp

end
@[go_sem] theorem slice_mr {t el : TypeId} {j off len n : Nat} {g : Bool} [ht : UndIs P t (.slice el)] [hs : SizeIs P el n] {lo hi : Option AV} :
    sliceA P t (.mr j off len n g) lo hi none = (bound len hi len).bind fun h => (bound h lo 0).bind fun l => some (if l < h ∨ l = 0 then .mr j (off + l * n) (h - l) n g else .sl []) := by
  unfold sliceA
  rw [ht.h]
  simp only [hs.h, if_true]
@[go_sem] theorem slice_nilA {t el : TypeId} {n : Nat} [ht : UndIs P t (.slice el)] [hs : SizeIs P el n] {lo hi : Option AV} :
    sliceA P t nilA lo hi none = (bound 0 hi 0).bind fun h => (bound h lo 0).bind fun _ => some nilA := by
  unfold sliceA nilA
  rw [ht.h]
  simp only [hs.h, Option.bind_some]
  rfl
end
end Go.Lv
set_option linter.unusedVariables false
set_option linter.unusedSimpArgs false
/-! Rows that are made, read and written, in steps. -/
namespace Go.Lv
section
variable {P : Program} {H : Heap} {α : Type} {f : α → AV}

theorem make_row [hf : Cell1 f] {t el : TypeId} {by_ : Nat} {z0 : α} [ht : UndIs P t (.slice el)] [hs : SizeIs P el 1] [hb : BytesIs P el by_] [ha : AggIs P el false] {l c : Int}
    (hz : zeroA P el = some [f z0]) (h0 : 0 ≤ l) (h1 : l ≤ c) (h2 : 0 < c) (h3 : c * (by_ + 1) ≤ 140737488355328) :
    makeA P H t (.v (.int .i64 l)) (.v (.int .i64 c)) = some (.mr H.length 0 l.toNat 1 false, H ++ [(List.replicate c.toNat z0).map f]) := by
  have e : elemOfT P t = some el := by unfold elemOfT; rw [ht.h]
  have h4 : c.toNat * (by_ + 1) ≤ 140737488355328 := by
    have : ((c.toNat * (by_ + 1) : Nat) : Int) = c * (by_ + 1) := by push_cast; rw [Int.toNat_of_nonneg (by omega)]
    omega
  unfold makeA
  simp only [e, hs.h, hb.h, hz, ha.h]
  rw [if_pos ⟨h0, h1, h2, h4, by omega, rfl⟩]
  congr 3
  congr 1
  apply List.ext_getElem?
  intro i
  simp only [Nat.mul_one, Nat.mod_one, List.map_replicate]
  rw [List.getElem?_map, List.getElem?_replicate]
  by_cases h : i < c.toNat
  · rw [List.getElem?_range h, if_pos h]; rfl
  · rw [if_neg h, List.getElem?_eq_none (by simp; omega)]; rfl

theorem store_row [hf : Cell1 f] {t : TypeId} [hs : SizeIs P t 1] {xs : List α} {j off : Nat} {x : α} (hj : H[j]? = some (xs.map f)) (hx : off < xs.length) : storeA P H t (.ptr j off) (f x) = some (H.set j ((xs.set off x).map f)) := by
  unfold storeA
  simp only [hs.h, hj, Option.bind_some]
  rw [if_pos]
  · congr 2
    rw [hf.c, List.set_eq_take_append_cons_drop, if_pos hx]
    simp [List.map_take, List.map_drop]
  · refine ⟨by rw [hf.c]; rfl, by rw [hf.c]; simp [hf.o], by rw [List.length_map]; exact hx, by omega, plainRow_one (all_cell1 xs)⟩
theorem plainD_map [hf : Cell1 f] {xs : List α} {x : Option AV} : plainD (xs.map f) x = x := plainD_of (plainRow_one (all_cell1 xs))
theorem partD_map {xs : List α} {s : Option Nat} {n : Nat} : partD (some false) s (xs.map f) n = (xs[n]?).map f := by simp [partD]
theorem get_set {H : Heap} {j : Nat} {cs : List AV} (h : j < H.length) : (H.set j cs)[j]? = some cs := List.getElem?_set_self h
end
end Go.Lv
set_option linter.unusedVariables false
set_option linter.unusedSimpArgs false
/-! Slices whose spare room is their own, in steps. -/
namespace Go.Lv
section
variable {P : Program} {H : Heap} {α : Type} {f : α → AV} {k n : Nat} {a : AV} {xs : List α}

/-- A slice that grows at its own end: its mark is held in memory from n on. -/
def TokOf (f : α → AV) (k n : Nat) (H : Heap) (a : AV) (xs : List α) : Prop :=
  (a = nilA ∧ xs = []) ∨ ∃ j, n ≤ j ∧ a = .ow (xs.map f) j ∧ H[j]? = some [.tk (xs.length * k)] ∧ 0 < xs.length
theorem TokOf.nil : TokOf f k n H nilA [] := .inl ⟨rfl, rfl⟩
theorem TokOf.plain (h : TokOf f k n H a xs) : plainA a = .sl (xs.map f) := by
  rcases h with ⟨rfl, rfl⟩ | ⟨j, _, rfl, _, _⟩ <;> rfl
theorem TokOf.len (h : TokOf f k n H a xs) {el : TypeId} : lenD (some (.slice el)) (owA a) = some (.v (.int .i64 xs.length)) := by
  rcases h with ⟨rfl, rfl⟩ | ⟨j, _, rfl, _, _⟩
  · rfl
  · simp [owA, lenD]
theorem TokOf.one (h : TokOf f k n H a xs) : a.cells = [a] ∧ a.one = true := by
  rcases h with ⟨rfl, rfl⟩ | ⟨j, _, rfl, _, _⟩ <;> exact ⟨rfl, rfl⟩
/-- Memory that only grew, or in which other places were written. -/
theorem TokOf.pre {H' : Heap} (h : TokOf f k n H a xs) (hp : H <+: H') : TokOf f k n H' a xs := by
  rcases h with h | ⟨j, hj, rfl, hH, hx⟩
  · exact .inl h
  · refine .inr ⟨j, hj, rfl, ?_, hx⟩
    obtain ⟨G, rfl⟩ := hp
    rw [List.getElem?_append_left (List.getElem?_eq_some_iff.1 hH).1]; exact hH

theorem bind_appendT [hf : CellsN f k] {H0 : Heap} {t u el el' : TypeId} {by_ : Nat} {z : List AV} [ht : UndIs P t (.slice el)] [hu : UndIs P u (.slice el')] [hs : SizeIs P el k] [hb : BytesIs P el by_] [hz : ZeroIs P el z]
    {ys : List α} {Q : AV × Heap → Prop} (hr : TokOf f k H0.length H a xs) (hp : H0 <+: H) (hk : (0 : Int) < k) (hzl : (z.length : Int) = k) (h0 : 0 < ys.length) (hle : ((xs.length : Int) + ys.length) * (by_ + 1) ≤ 140737488355328)
    (hq : ∀ a' H', TokOf f k H0.length H' a' (xs ++ ys) → H0 <+: H' → Q (a', H')) : @bindP _ (appendT P H t u a (.sl (ys.map f))) ⟨Q⟩ := by
  have hle' : (xs.length + ys.length) * (by_ + 1) ≤ 140737488355328 := by
    have : (((xs.length + ys.length) * (by_ + 1) : Nat) : Int) = ((xs.length : Int) + ys.length) * (by_ + 1) := by push_cast; rfl
    omega
  have c1 : 0 < k ∧ z.length = k ∧ (∀ a ∈ ys.map f, a.cells.length = k) ∧ 0 < (ys.map f).length := ⟨by omega, by omega, map_cells ys, by simpa using h0⟩
  rcases hr with ⟨rfl, rfl⟩ | ⟨j, hj, rfl, hH, hx⟩
  · have e : appendT P H t u nilA (.sl (ys.map f)) = some (.ow (ys.map f) H.length, H ++ [[.tk (ys.length * k)]]) := by
      unfold appendT nilA
      rw [ht.h, hu.h]
      simp only [hs.h, hb.h, hz.h]
      rw [if_pos c1, if_pos ⟨rfl, by simpa using hle'⟩, List.length_map]
    rw [e, bindP_some]
    refine hq _ _ (.inr ⟨H.length, pre_len hp, by simp, ?_, by simpa using h0⟩) (pre_add hp _)
    rw [List.getElem?_append_right (Nat.le_refl _)]; simp
  · have e : appendT P H t u (.ow (xs.map f) j) (.sl (ys.map f)) = some (.ow ((xs ++ ys).map f) H.length, H.set j [] ++ [[.tk ((xs ++ ys).length * k)]]) := by
      unfold appendT
      rw [ht.h, hu.h]
      simp only [hs.h, hb.h, hz.h]
      rw [if_pos c1, if_pos ⟨by rw [hH]; simp [tkRow], by simpa using hle', map_cells xs, by simpa using hx⟩]
      simp
    rw [e, bindP_some]
    refine hq _ _ (.inr ⟨H.length, pre_len hp, rfl, ?_, by simp; omega⟩) (pre_set hp hj _ _)
    rw [get_end]
end
end Go.Lv
set_option linter.unusedVariables false
set_option linter.unusedSimpArgs false
/-! A closed call, run by the kernel: the same steps over a tree of variables. -/
namespace Go.Lv

/-- Variables in a tree. -/
inductive VTr where
  | leaf
  | node (a : AV) (l r : VTr)
def VTr.get : VTr → Nat → AV
  | .leaf, _ => .un
  | .node a l r, n => match n with
    | 0 => a
    | m + 1 => bif Nat.beq (m % 2) 0 then l.get (m / 2) else r.get (m / 2)
def VTr.set : Nat → VTr → Nat → AV → Option VTr
  | 0, _, _, _ => none
  | k + 1, t, n, x =>
    let (a, l, r) := match t with | .leaf => (AV.un, VTr.leaf, VTr.leaf) | .node a l r => (a, l, r)
    match n with
    | 0 => some (.node x l r)
    | m + 1 => bif Nat.beq (m % 2) 0 then (match VTr.set k l (m / 2) x with | some l => some (.node a l r) | none => none)
      else (match VTr.set k r (m / 2) x with | some r => some (.node a l r) | none => none)
theorem VTr.set_ok : ∀ (k : Nat) (t : VTr) (n : Nat) (x : AV) (t' : VTr), VTr.set k t n x = some t' → t'.get = upd t.get n x := by
  intro k
  induction k with
  | zero => intro t n x t' h; cases h
  | succ k ih =>
    intro t n x t' h
    have key : ∀ (a : AV) (l r : VTr), (match n with
        | 0 => some (VTr.node x l r)
        | m + 1 => bif Nat.beq (m % 2) 0 then (match VTr.set k l (m / 2) x with | some l => some (VTr.node a l r) | none => none)
          else (match VTr.set k r (m / 2) x with | some r => some (VTr.node a l r) | none => none)) = some t' → t'.get = upd (VTr.node a l r).get n x := by
      intro a l r h
      funext m
      cases n with
      | zero =>
        injection h with h; subst h
        cases m <;> simp [VTr.get, upd]
      | succ n =>
        simp only at h
        cases hb : Nat.beq (n % 2) 0 with
        | true =>
          rw [hb, cond_true] at h
          cases hs : VTr.set k l (n / 2) x with
          | none => rw [hs] at h; cases h
          | some l' =>
            rw [hs] at h
            injection h with h; subst h
            have := ih _ _ _ _ hs
            cases m with
            | zero => simp [VTr.get, upd]
            | succ m =>
              simp only [VTr.get]
              by_cases hmn : m = n
              · subst hmn
                rw [hb, cond_true, this]; simp [upd]
              · have hne : (m + 1 = n + 1) = False := by simp; exact hmn
                rw [upd, if_neg (by omega)]
                simp only [VTr.get]
                cases hm : Nat.beq (m % 2) 0 with
                | true =>
                  rw [cond_true, cond_true, this, upd, if_neg]
                  have h1 := Nat.eq_of_beq_eq_true hb
                  have h2 := Nat.eq_of_beq_eq_true hm
                  omega
                | false => rfl
        | false =>
          rw [hb, cond_false] at h
          cases hs : VTr.set k r (n / 2) x with
          | none => rw [hs] at h; cases h
          | some l' =>
            rw [hs] at h
            injection h with h; subst h
            have := ih _ _ _ _ hs
            cases m with
            | zero => simp [VTr.get, upd]
            | succ m =>
              simp only [VTr.get]
              by_cases hmn : m = n
              · subst hmn
                rw [hb, cond_false, this]; simp [upd]
              · rw [upd, if_neg (by omega)]
                simp only [VTr.get]
                cases hm : Nat.beq (m % 2) 0 with
                | true => rfl
                | false =>
                  rw [cond_false, cond_false, this, upd, if_neg]
                  have h1 := Nat.ne_of_beq_eq_false hb
                  have h2 := Nat.ne_of_beq_eq_false hm
                  omega
    cases t with
    | leaf =>
      have := key .un .leaf .leaf (by cases n <;> exact h)
      rw [this]
      funext m
      simp only [upd]
      split
      · rfl
      · cases m with
        | zero => rfl
        | succ m => simp [VTr.get]
    | node a l r => exact key a l r (by cases n <;> exact h)

def putX (t : VTr) : Option Nat → AV → Option VTr
  | some d, a => t.set 16 d a
  | none, _ => some t
theorem putX_ok {t t' : VTr} {d : Option Nat} {a : AV} (h : putX t d a = some t') : t'.get = put t.get d a := by
  cases d with
  | none => injection h with h; subst h; rfl
  | some d => exact VTr.set_ok _ _ _ _ _ h

/-! ### Values held against one another -/
def eqV : Value → Value → Bool
  | .int k x, .int k' y => decide (k = k') && x == y
  | .bool a, .bool b => a == b
  | .string a, .string b => a == b
  | .pointer none, .pointer none => true
  | .slice none 0 0, .slice none 0 0 => true
  | .map none, .map none => true
  | _, _ => false
theorem eqV_ok {x y : Value} (h : eqV x y = true) : x = y := by
  unfold eqV at h
  split at h
  · simp only [Bool.and_eq_true, decide_eq_true_eq, beq_iff_eq] at h
    rw [h.1, h.2]
  · simp at h; rw [h]
  · rw [(bytes_beq' _ _).1 h]
  · rfl
  · rfl
  · rfl
  · cases h
def eqL (f : AV → AV → Bool) : List AV → List AV → Bool
  | [], [] => true
  | a :: as_, b :: bs => f a b && eqL f as_ bs
  | _, _ => false
theorem eqL_ok {f : AV → AV → Bool} (hf : ∀ a b, f a b = true → a = b) : ∀ {as_ bs : List AV}, eqL f as_ bs = true → as_ = bs := by
  intro as_
  induction as_ with
  | nil => intro bs h; cases bs with
    | nil => rfl
    | cons b bs => cases h
  | cons a as_ ih => intro bs h; cases bs with
    | nil => cases h
    | cons b bs =>
      simp only [eqL, Bool.and_eq_true] at h
      rw [hf _ _ h.1, ih h.2]
def eqA : Nat → AV → AV → Bool
  | 0, _, _ => false
  | k + 1, .v x, .v y => eqV x y
  | k + 1, .ptr i o, .ptr i' o' => i == i' && o == o'
  | k + 1, .mp i, .mp i' => i == i'
  | k + 1, .mr j o l n g, .mr j' o' l' n' g' => j == j' && o == o' && l == l' && n == n' && g == g'
  | k + 1, .sl xs, .sl ys => eqL (eqA k) xs ys
  | k + 1, .agg xs, .agg ys => eqL (eqA k) xs ys
  | k + 1, .ow xs j, .ow ys j' => eqL (eqA k) xs ys && j == j'
  | _ + 1, _, _ => false
theorem eqA_ok : ∀ (k : Nat) (a b : AV), eqA k a b = true → a = b := by
  intro k
  induction k with
  | zero => intro a b h; cases h
  | succ k ih =>
    intro a b h
    unfold eqA at h
    split at h
    · contradiction
    · rw [eqV_ok h]
    · simp only [Bool.and_eq_true, beq_iff_eq] at h; rw [h.1, h.2]
    · simp only [beq_iff_eq] at h; rw [h]
    · simp only [Bool.and_eq_true, beq_iff_eq] at h
      obtain ⟨⟨⟨⟨h1, h2⟩, h3⟩, h4⟩, h5⟩ := h
      rw [h1, h2, h3, h4, h5]
    · rename_i h'; injection h' with h'; subst h'; rw [eqL_ok ih h]
    · rename_i h'; injection h' with h'; subst h'; rw [eqL_ok ih h]
    · rename_i h'; injection h' with h'; subst h'
      simp only [Bool.and_eq_true, beq_iff_eq] at h
      rw [eqL_ok ih h.1, h.2]
    · cases h
def eqO (a : Option AV) (b : AV) : Bool := match a with | some a => eqA 20 a b | none => false
theorem eqO_ok {a : Option AV} {b : AV} (h : eqO a b = true) : a = some b := by
  unfold eqO at h
  split at h
  · rw [eqA_ok _ _ _ h]
  · cases h

def seenX (P : Program) (all : Array Oper) (i : Nat) (e : Env) (S : Seen) (o : Op) (a : AV) (H H' : Heap) : Option Seen :=
  match o with
  | .load t p => bif S.snaps.all fun s => reachL all i s.1 || eqO (loadA P s.2 t (ev e p)) a then some { S with loads := (i, t, ev e p, a) :: S.loads } else none
  | .slice t x _ _ _ => match ev e x with
    | .ptr j off => (loadA P H t (.ptr j off)).bind fun v => bif S.snaps.all fun s => reachL all i s.1 || eqO (loadA P s.2 t (.ptr j off)) v then some { S with loads := (i, t, .ptr j off, v) :: S.loads } else none
    | _ => some S
  | o => bif effOp o then (bif S.loads.all fun l => reachE all 8 i l.1 || eqO (loadA P H' l.2.1 l.2.2.1) l.2.2.2 then some { S with snaps := (i, H) :: S.snaps } else none) else some S
theorem seenX_ok {P : Program} {all : Array Oper} {i : Nat} {e : Env} {S S' : Seen} {o : Op} {a : AV} {H H' : Heap} (h : seenX P all i e S o a H H' = some S') : seenOK P all i e S o a H H' = some S' := by
  unfold seenX at h
  unfold seenOK
  split at h
  · rename_i t p
    simp only
    cases hc : S.snaps.all fun s => reachL all i s.1 || eqO (loadA P s.2 t (ev e p)) a with
    | false => rw [hc] at h; cases h
    | true =>
      rw [hc] at h
      rw [if_pos]
      · exact h
      · intro s hs
        have := List.all_eq_true.1 hc s hs
        simp only [Bool.or_eq_true] at this
        exact this.imp id eqO_ok
  · rename_i t x lo hi mx
    simp only
    generalize ev e x = v0 at h ⊢
    split at h
    · rename_i j off
      simp only
      obtain ⟨v, hv, h⟩ := Option.bind_eq_some_iff.1 h
      rw [hv, Option.bind_some]
      cases hc : S.snaps.all fun s => reachL all i s.1 || eqO (loadA P s.2 t (.ptr j off)) v with
      | false => rw [hc] at h; cases h
      | true =>
        rw [hc] at h
        rw [if_pos]
        · exact h
        · intro s hs
          have := List.all_eq_true.1 hc s hs
          simp only [Bool.or_eq_true] at this
          exact this.imp id eqO_ok
    · rename_i hno
      cases v0 <;> first | exact h | exact (hno _ _ rfl).elim
  · rename_i hno hno2
    have key : ∀ (o : Op) (n1 n2 : Option Seen), (∀ t p, o ≠ .load t p) → (bif effOp o then n1 else some S) = some S' → (n1 = some S' → n2 = some S') → (if effOp o = true then n2 else some S) = some S' := by
      intro o n1 n2 _ h1 h2
      cases he : effOp o with
      | false => rw [he] at h1; simpa using h1
      | true => rw [he] at h1; rw [if_pos rfl]; exact h2 (by simpa using h1)
    have key2 : (bif S.loads.all fun l => reachE all 8 i l.1 || eqO (loadA P H' l.2.1 l.2.2.1) l.2.2.2 then some { S with snaps := (i, H) :: S.snaps } else none) = some S' →
        (open Classical in if ∀ l ∈ S.loads, reachE all 8 i l.1 = true ∨ loadA P H' l.2.1 l.2.2.1 = some l.2.2.2 then some { S with snaps := (i, H) :: S.snaps } else none) = some S' := by
      intro hx'
      cases hc : S.loads.all fun l => reachE all 8 i l.1 || eqO (loadA P H' l.2.1 l.2.2.1) l.2.2.2 with
      | false => rw [hc] at hx'; cases hx'
      | true =>
        rw [hc] at hx'
        rw [if_pos]
        · exact hx'
        · intro s hs
          have := List.all_eq_true.1 hc s hs
          simp only [Bool.or_eq_true] at this
          exact this.imp id eqO_ok
    cases o <;> first | exact absurd rfl (hno _ _) | exact (hno _ _ rfl).elim | exact (hno2 _ _ _ _ _ rfl).elim | exact key _ _ _ (by intro t p h; cases h) h key2

/-! ### Values laid out -/
def nfI {β : Type} (n : Int) (k : Int → Option β) : Option β := match n with
  | .ofNat m => (match m with | 0 => k (.ofNat 0) | m + 1 => k (.ofNat (m + 1)))
  | .negSucc m => (match m with | 0 => k (.negSucc 0) | m + 1 => k (.negSucc (m + 1)))
theorem nfI_eq {β : Type} (n : Int) (k : Int → Option β) : nfI n k = k n := by
  unfold nfI
  split
  · split <;> rfl
  · split <;> rfl
def nfN {β : Type} (n : Nat) (k : Nat → Option β) : Option β := match n with | 0 => k 0 | m + 1 => k (m + 1)
theorem nfN_eq {β : Type} (n : Nat) (k : Nat → Option β) : nfN n k = k n := by
  unfold nfN
  split <;> rfl
def nf {β : Type} (a : AV) (k : AV → Option β) : Option β := match a with
  | .v (.int kd n) => nfI n fun n => k (.v (.int kd n))
  | .v (.bool true) => k (.v (.bool true))
  | .v (.bool false) => k (.v (.bool false))
  | .ptr j off => nfN j fun j => nfN off fun off => k (.ptr j off)
  | a => k a
theorem nf_eq {β : Type} (a : AV) (k : AV → Option β) : nf a k = k a := by
  unfold nf
  split
  · rw [nfI_eq]
  · rfl
  · rfl
  · rw [nfN_eq, nfN_eq]
  · rfl

/-! ### Code -/
def lopsX (P : Program) (C : Cfg) (call : CallF) (all : Array Oper) : List Oper → VTr → Heap → Option (VTr × Heap)
  | [], e, H => some (e, H)
  | o :: r, e, H =>
    match wants all e.get o with
    | none => none
    | some false => match putX e o.dst skipA with
      | some e' => lopsX P C call all r e' H
      | none => none
    | some true => match stepA P C call o.dst e.get H o.op with
      | some (a, H') => nf a fun a => match putX e o.dst a with
        | some e' => lopsX P C call all r e' H'
        | none => none
      | none => none
theorem lopsX_ok {P : Program} {C : Cfg} {c1 c2 : CallF} (hc : CLe c1 c2) (all : Array Oper) : ∀ (l : List Oper) (e : VTr) (H : Heap) e' H', lopsX P C c1 all l e H = some (e', H') → lops P C c2 all l e.get H = some (e'.get, H') := by
  intro l
  induction l with
  | nil => intro e H e' H' h; injection h with h; injection h with h1 h2; subst h1 h2; rfl
  | cons o l ih =>
    intro e H e' H' h
    unfold lopsX at h
    unfold lops
    split at h
    · cases h
    · rename_i hw
      rw [hw]
      split at h
      · rename_i e1 he1
        simp only
        rw [← putX_ok he1]
        exact ih _ _ _ _ h
      · cases h
    · rename_i hw
      rw [hw]
      split at h
      · rename_i a H1 hs
        rw [nf_eq] at h
        split at h
        · rename_i e1 he1
          simp only
          rw [stepA_mono hc hs, Option.bind_some, ← putX_ok he1]
          exact ih _ _ _ _ h
        · cases h
      · cases h

def lopsDX (P : Program) (C : Cfg) (call : CallF) (all : Array Oper) : Nat → List Oper → VTr → Heap → Seen → Option (VTr × Heap)
  | _, [], e, H, _ => some (e, H)
  | i, o :: r, e, H, S =>
    match wants all e.get o with
    | none => none
    | some false => match putX e o.dst skipA with
      | some e' => lopsDX P C call all (i + 1) r e' H S
      | none => none
    | some true => match stepA P C call o.dst e.get H o.op with
      | some (a, H') => nf a fun a => match seenX P all i e.get S o.op a H H' with
        | some S' => match putX e o.dst a with
          | some e' => lopsDX P C call all (i + 1) r e' H' S'
          | none => none
        | none => none
      | none => none
theorem lopsDX_ok {P : Program} {C : Cfg} {c1 c2 : CallF} (hc : CLe c1 c2) (all : Array Oper) : ∀ (l : List Oper) (i : Nat) (e : VTr) (H : Heap) (S : Seen) e' H', lopsDX P C c1 all i l e H S = some (e', H') → lopsD P C c2 all i l e.get H S = some (e'.get, H') := by
  intro l
  induction l with
  | nil => intro i e H S e' H' h; injection h with h; injection h with h1 h2; subst h1 h2; rfl
  | cons o l ih =>
    intro i e H S e' H' h
    unfold lopsDX at h
    unfold lopsD
    split at h
    · cases h
    · rename_i hw
      rw [hw]
      split at h
      · rename_i e1 he1
        simp only
        rw [← putX_ok he1]
        exact ih _ _ _ _ _ _ h
      · cases h
    · rename_i hw
      rw [hw]
      split at h
      · rename_i a H1 hs
        rw [nf_eq] at h
        split at h
        · rename_i S1 hS1
          split at h
          · rename_i e1 he1
            simp only
            rw [stepA_mono hc hs, Option.bind_some]
            simp only
            rw [seenX_ok hS1, Option.bind_some, ← putX_ok he1]
            exact ih _ _ _ _ _ _ h
          · cases h
        · cases h
      · cases h

def lcodeX (P : Program) (C : Cfg) (call : CallF) : Nat → Code → VTr → Heap → Option (Ex × VTr × Heap)
  | 0, _, _, _ => none
  | _ + 1, .skip, e, H => some (.normal, e, H)
  | _ + 1, .region _ ops false, e, H => match lopsX P C call ops ops.toList e H with
    | some (e, H) => some (.normal, e, H)
    | none => none
  | _ + 1, .region _ ops true, e, H => match lopsDX P C call ops 0 ops.toList e H {} with
    | some (e, H) => some (.normal, e, H)
    | none => none
  | n + 1, .seq a b, e, H =>
    match lcodeX P C call n a e H with
    | some (.normal, e, H) => lcodeX P C call n b e H
    | r => r
  | n + 1, .cond c a b, e, H =>
    match ev e.get c with
    | .v (.bool true) => lcodeX P C call n a e H
    | .v (.bool false) => lcodeX P C call n b e H
    | _ => none
  | n + 1, .block id a, e, H =>
    match lcodeX P C call n a e H with
    | some (.exit i, e, H) => bif Nat.beq i id then some (.normal, e, H) else some (.exit i, e, H)
    | r => r
  | n + 1, .loop a, e, H =>
    match lcodeX P C call n a e H with
    | some (.normal, e, H) => lcodeX P C call n (.loop a) e H
    | r => r
  | _ + 1, .exit id, e, H => some (.exit id, e, H)
  | _ + 1, .ret, e, H => some (.ret, e, H)
  | _ + 1, _, _, _ => none
theorem lcodeX_ok {P : Program} {C : Cfg} {c1 c2 : CallF} (hc : CLe c1 c2) : ∀ (n : Nat) (c : Code) (e : VTr) (H : Heap) x e' H', lcodeX P C c1 n c e H = some (x, e', H') → lcode P C c2 n c e.get H = some (x, e'.get, H') := by
  intro n
  induction n with
  | zero => intro c e H x e' H' h; cases h
  | succ n ih =>
    intro c e H x e' H' h
    cases c with
    | skip => injection h with h; injection h with h1 h; injection h with h2 h3; subst h1 h2 h3; rfl
    | region id ops d =>
      cases d with
      | false =>
        simp only [lcodeX] at h
        simp only [lcode]
        split at h
        · rename_i e1 H1 h1
          injection h with h; injection h with h2 h; injection h with h3 h4; subst h2 h3 h4
          rw [lopsX_ok hc _ _ _ _ _ _ h1]; rfl
        · cases h
      | true =>
        simp only [lcodeX] at h
        simp only [lcode]
        split at h
        · rename_i e1 H1 h1
          injection h with h; injection h with h2 h; injection h with h3 h4; subst h2 h3 h4
          rw [lopsDX_ok hc _ _ _ _ _ _ _ _ h1]; rfl
        · cases h
    | seq a b =>
      simp only [lcodeX] at h
      simp only [lcode]
      split at h
      · rename_i e1 H1 h1
        rw [ih _ _ _ _ _ _ h1]
        exact ih _ _ _ _ _ _ h
      · rename_i hne
        rw [ih _ _ _ _ _ _ h]
        cases x with
        | normal => exact absurd h (hne _ _)
        | exit i => rfl
        | ret => rfl
    | cond c a b =>
      simp only [lcodeX] at h
      simp only [lcode]
      split at h
      · rename_i hcv
        rw [hcv]
        simp only [if_pos]
        exact ih _ _ _ _ _ _ h
      · rename_i hcv
        rw [hcv]
        simp only [Bool.false_eq_true, if_false]
        exact ih _ _ _ _ _ _ h
      · cases h
    | block id a =>
      simp only [lcodeX] at h
      simp only [lcode]
      split at h
      · rename_i i e1 H1 h1
        rw [ih _ _ _ _ _ _ h1]
        simp only
        cases hb : Nat.beq i id with
        | true =>
          rw [hb, cond_true] at h
          injection h with h; injection h with h2 h; injection h with h3 h4; subst h2 h3 h4
          rw [if_pos (Nat.eq_of_beq_eq_true hb)]
        | false =>
          rw [hb, cond_false] at h
          injection h with h; injection h with h2 h; injection h with h3 h4; subst h2 h3 h4
          rw [if_neg (Nat.ne_of_beq_eq_false hb)]
      · rename_i hne
        rw [ih _ _ _ _ _ _ h]
        cases x with
        | normal => rfl
        | exit i => exact absurd h (hne _ _ _)
        | ret => rfl
    | loop a =>
      simp only [lcodeX] at h
      simp only [lcode]
      split at h
      · rename_i e1 H1 h1
        rw [ih _ _ _ _ _ _ h1]
        exact ih _ _ _ _ _ _ h
      · rename_i hne
        rw [ih _ _ _ _ _ _ h]
        cases x with
        | normal => exact absurd h (hne _ _)
        | exit i => rfl
        | ret => rfl
    | exit id => injection h with h; injection h with h1 h; injection h with h2 h3; subst h1 h2 h3; rfl
    | ret => injection h with h; injection h with h1 h; injection h with h2 h3; subst h1 h2 h3; rfl
    | _ => cases h

def trOf : Nat → List AV → VTr → Option VTr
  | _, [], t => some t
  | i, a :: as_, t => match putX t (some i) a with
    | some t => trOf (i + 1) as_ t
    | none => none
theorem trOf_ok : ∀ (as_ : List AV) (i : Nat) (t t' : VTr), trOf i as_ t = some t' → ∀ k, t'.get k = if i ≤ k ∧ k < i + as_.length then as_.getD (k - i) .un else t.get k := by
  intro as_
  induction as_ with
  | nil => intro i t t' h k; injection h with h; subst h; rw [if_neg (by simp)]
  | cons a as_ ih =>
    intro i t t' h k
    unfold trOf at h
    split at h
    · rename_i t1 h1
      rw [ih _ _ _ h k, putX_ok h1]
      simp only [put, upd, List.length_cons]
      by_cases hk : k = i
      · subst hk
        rw [if_neg (by omega), if_pos rfl, if_pos (by omega)]; simp
      · by_cases hk2 : i + 1 ≤ k ∧ k < i + 1 + as_.length
        · rw [if_pos hk2, if_pos (by omega), show k - i = (k - (i + 1)) + 1 by omega]; simp
        · rw [if_neg hk2, if_neg hk, if_neg (by omega)]
    · cases h
theorem trOf_env {args : List AV} {t : VTr} (h : trOf 0 args .leaf = some t) : t.get = env0 args := by
  funext k
  rw [trOf_ok _ _ _ _ h k]
  unfold env0
  split
  · simp
  · rename_i hk
    rw [List.getD_eq_getElem?_getD, List.getElem?_eq_none (by omega)]
    rfl

def lcallX (P : Program) (C : Cfg) : Nat → CallF
  | 0, _, _, _ => none
  | n + 1, f, args, H =>
    match C.ext f with
    | some g => g args H
    | none =>
      bif C.ok f then
        match P.funcs[f]? with
        | some fn => match fn.body with
          | some c => match trOf 0 args .leaf with
            | some t => match lcodeX P (C.at f) (lcallX P C n) n c t H with
              | some (.exit _, _, _) => none
              | some (_, e, H) => (resultsA P fn e.get H).map fun a => (a, H)
              | none => none
            | none => none
          | none => none
        | none => none
      else none
theorem lcallX_ok {P : Program} {C : Cfg} : ∀ n, CLe (lcallX P C n) (lcall P C n) := by
  intro n
  induction n with
  | zero => intro f a H r h; cases h
  | succ n ih =>
    intro f a H r h
    unfold lcallX at h
    unfold lcall
    split at h
    · rename_i g hg
      rw [hg]; exact h
    · rename_i hg
      rw [hg]
      simp only
      cases hk : C.ok f with
      | false => rw [hk] at h; cases h
      | true =>
        rw [hk, cond_true] at h
        rw [if_pos rfl]
        split at h
        · rename_i fn hf
          rw [hf]
          simp only
          split at h
          · rename_i c hb
            rw [hb]
            simp only
            split at h
            · rename_i t ht
              split at h
              · cases h
              · rename_i x e1 H1 hne hl
                have := lcodeX_ok ih _ _ _ _ _ _ _ hl
                rw [trOf_env ht] at this
                rw [this]
                cases x with
                | exit i => exact absurd rfl (hne i)
                | normal => exact h
                | ret => exact h
              · cases h
            · cases h
          · cases h
        · cases h

/-- A closed call: what it answers once it answers in any memory. -/
theorem closed_ok {P : Program} {C : Cfg} (W0 : World0 P C) {f : FuncId} {n : Nat} {b : Bool} {H' : Heap} (hsig : C.sig f = {}) (h : lcall P C n f [] [] = some (.b b, H')) {H : Heap} : CallOK P {} f [] H (.b b) H := by
  intro F L w vs hS hl hrel hown hglob
  have hc := ((lcall_ok W0 n).ok f [] [] _ H' h).1
  rw [hsig] at hc
  have h0 : St P { get := fun _ _ => none, room := fun _ => 0 } [] NX w [] :=
    { mem := (by intro B i v h; cases h), len := rfl, obj := (by simp), lt := (by simp), nof := (by simp), nox := (by simp), inj := (by simp), xlt := (by intro B h; exact h.elim), room0 := (fun B h => rfl), mob := (by simp), rm := (by simp) }
  refine (hc _ [] w vs h0 hl (by intro k c hk; simp at hk) ⟨by intro k n hk; simp at hk, by intro j k n m hj; simp at hj⟩ (hglob.weaken (by simp) (by rintro B _ ⟨j, n, hj, _⟩; simp at hj))).mono ?_
  rintro e w' ⟨v, F', L', rfl, hR⟩
  have hv : v = .bool b := by
    have := hR.rel
    cases this; rfl
  subst hv
  have hb : Go.RowKit.Below w.heap.size w w' := by
    refine ⟨hR.goes.rest.1, hR.goes.rest.2.1, hR.goes.rest.2.2, hR.goes.size, fun k hk => ?_⟩
    refine (hR.goes.keep k hk ?_ (by simp)).1
    rintro ⟨j, n, hj, _⟩
    simp at hj
  obtain ⟨hS1, hg1⟩ := hS.below hb
  exact ⟨_, F, L, rfl, .sc _ rfl, hS1, hg1.weaken (fun _ _ h => h.elim), by simp, by simp⟩

def closedT (b : Bool) (H : Heap) : List AV → Option (AV × Heap)
  | [] => some (.b b, H)
  | _ => none
theorem closedT_ok {P : Program} {C : Cfg} (W0 : World0 P C) {f : FuncId} {n : Nat} {b : Bool} (hsig : C.sig f = {}) (h : ((lcallX P C n f [] []).map fun r => eqA 2 r.1 (.b b)) = some true) {args : List AV} {H : Heap} {r : AV} {H' : Heap} (hr : closedT b H args = some (r, H')) : CallOK P {} f args H r H' := by
  obtain ⟨⟨a, H1⟩, h1, h2⟩ := Option.map_eq_some_iff.1 h
  have := eqA_ok _ _ _ h2
  simp only at this
  subst this
  cases args with
  | nil =>
    injection hr with hr; injection hr with hr1 hr2; subst hr1 hr2
    exact closed_ok W0 hsig (lcallX_ok _ _ _ _ _ h1)
  | cons x xs => cases hr
end Go.Lv
set_option linter.unusedVariables false
set_option linter.unusedSimpArgs false
/-! Calls of functions that are values. -/
namespace Go.Lv
section
variable {P : Program} {C : Cfg} {d : Option Nat} {e : Env} {H : Heap}
end
end Go.Lv
