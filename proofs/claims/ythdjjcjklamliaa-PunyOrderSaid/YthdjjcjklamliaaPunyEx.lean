/- The chapter's examples, and signs below 80 alone. -/
import Derived.Test.YthdjjcjklamliaaPunyFacts
set_option linter.unusedVariables false
set_option linter.unusedSimpArgs false
namespace Go.Puny

theorem numL_stop {q k bias : Int} (h : q < thr k bias) : numL q k bias = [ltr q] := by rw [numL, dif_pos h]
theorem numL_go {q k bias : Int} (h : ¬ q < thr k bias) : numL q k bias = ltr (thr k bias + (q - thr k bias) % (36 - thr k bias)) :: numL ((q - thr k bias) / (36 - thr k bias)) (k + 36) bias := by rw [numL, dif_neg h]
theorem adaptL_stop {d k : Int} (h : ¬ 455 < d) : adaptL d k = (d, k) := by rw [adaptL, dif_neg h]
theorem adaptL_go {d k : Int} (h : 455 < d) : adaptL d k = adaptL (d / 35) (k + 36) := by rw [adaptL, dif_pos h]

theorem numL_ex : numL 745 36 72 = [107, 118, 97] := by
  rw [numL_go (by decide), numL_go (by decide), numL_stop (by decide)]
  decide
theorem adapt_ex : adapt 745 6 true = 0 := by
  unfold adapt
  simp only
  rw [adaptL_stop (by decide)]
  decide
theorem encode_ex : encode [98, 252, 99, 104, 101, 114] = ([98, 99, 104, 101, 114, 45, 107, 118, 97], 0) := by
  have h1 : plain [98, 252, 99, 104, 101, 114] = [98, 99, 104, 101, 114] := by decide
  have h2 : [98, 252, 99, 104, 101, 114].all scalar = true := by decide
  have h3 : nxt [98, 252, 99, 104, 101, 114] 128 = 252 := by decide
  rw [encode, if_neg (by decide), enc, if_pos h2, h1, show dash [98, 99, 104, 101, 114] = [98, 99, 104, 101, 114, 45] from by decide]
  have h4 : eRound [98, 252, 99, 104, 101, 114] 5 128 ([98, 99, 104, 101, 114, 45], 0, 72, 5) = ([98, 99, 104, 101, 114, 45, 107, 118, 97], 4, 0, 6) := by
    rw [eRound, h3]
    simp only [List.foldl_cons, List.foldl_nil]
    rw [show eStep 252 5 ([98, 99, 104, 101, 114, 45], 0 + (252 - 128) * (5 + 1), 72, 5) 98 = ([98, 99, 104, 101, 114, 45], 745, 72, 5) from by decide]
    rw [show eStep 252 5 ([98, 99, 104, 101, 114, 45], 745, 72, 5) 252 = ([98, 99, 104, 101, 114, 45, 107, 118, 97], 0, 0, 6) from by
      rw [eStep, if_neg (by decide), if_pos (by decide)]
      simp only
      rw [numL_ex, show decide True = true from rfl, show (5 : Int) + 1 = 6 from rfl, adapt_ex]
      rfl]
    decide
  rw [show ((([98, 99, 104, 101, 114] : List UInt8).length : Nat) : Int) = 5 from rfl, show ([98, 252, 99, 104, 101, 114] : List Int).length = 6 from rfl, eLoop, if_pos (by decide), h4, h3]
  simp only
  rw [eLoop, if_neg (by decide)]

theorem decode_ex : decode [116, 100, 97] = ([252], 0) := by
  have h1 : deltaR [116, 100, 97] 0 0 1 36 72 = some (124, 3) := by decide
  have h2 : [116, 100, 97].all (fun c : UInt8 => decide (c.toNat < 128)) = true := by decide
  have h3 : cutAt [116, 100, 97] = -1 := by decide
  rw [decode, if_neg (by decide), dec, if_pos h2, h3, if_neg (by decide)]
  simp only [List.length_cons, List.length_nil]
  rw [decL, if_neg (by decide), if_neg (by decide)]
  simp only [show ([116, 100, 97] : List UInt8).take (-1 : Int).toNat = [] from rfl, List.map_nil]
  rw [h1]
  simp only
  rw [if_neg (by decide), if_neg (by decide), decL, if_neg (by decide), if_pos (by decide)]
  rfl

theorem decode_dash : decode [45] = ([], 4) := by
  have h1 : deltaR [45] 0 0 1 36 72 = none := by decide
  have h2 : [45].all (fun c : UInt8 => decide (c.toNat < 128)) = true := by decide
  have h3 : cutAt [45] = 0 := by decide
  rw [decode, if_neg (by decide), dec, if_pos h2, h3, if_neg (by decide)]
  simp only [List.length_cons, List.length_nil]
  rw [decL, if_neg (by decide), if_neg (by decide)]
  simp only [show ([45] : List UInt8).take (0 : Int).toNat = [] from rfl, List.map_nil]
  rw [h1]
end Go.Puny
