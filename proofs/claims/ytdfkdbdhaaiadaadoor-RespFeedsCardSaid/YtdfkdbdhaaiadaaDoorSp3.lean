/- What clients send: numbers written and read; some requests. -/
import Derived.Test.YtdfkdbdhaaiadaaDoorSp2
import Derived.Test.YtdfkdbdhaaiadaaDoorN7
namespace Go.Proofs.YtdfkdbdhaaiadaaDoor
open Go.Lib

theorem dec_len (k : Nat) : ∀ u : Nat, u < 10 ^ (k + 1) → (decDigits u).length ≤ k + 1 := by
  induction k with
  | zero => intro u h; rw [dec_small (by simpa using h)]; simp
  | succ k ih =>
    intro u h
    by_cases h10 : u < 10
    · rw [dec_small h10]; simp
    · rw [dec_big h10, List.length_append, List.length_singleton]
      have := ih (u / 10) (by rw [Nat.pow_succ] at h; omega)
      omega

theorem numbers : Numbers parseV decDigits := by
  refine ⟨fun n hn => ?_, fun n hn => ?_, fun n hn d hd => ?_⟩
  · rw [← itoa_nonneg]; exact parseV_itoa _ (by omega) (by omega)
  · have := dec_len 5 n (by omega); omega
  · have := dec_dig n d hd
    unfold isDig at this
    intro e; subst e; simp at this

/-- The bytes of the law's first question. -/
def awakeB : Bs := [42, 50, 13, 10, 36, 51, 13, 10, 71, 69, 84, 13, 10, 36, 49, 13, 10, 97, 13, 10, 115, 101, 116, 32, 97, 32, 34, 98, 32, 99, 34, 10, 42, 49]

theorem awake_1 : first parseV awakeB = .ok ([[71, 69, 84], [97]], 20) := by
  have h := first_w numbers [[71, 69, 84], [97]] (awakeB.drop 20)
  have e : wReq decDigits [[71, 69, 84], [97]] = awakeB.take 20 := by
    unfold wReq wBulk
    simp only [List.length_cons, List.length_nil]
    rw [dec_small (by omega)]
    simp only [List.map_cons, List.map_nil, List.length_cons, List.length_nil]
    rw [dec_small (by omega), dec_small (by omega)]
    decide
  rw [e] at h
  simp at h
  exact h

theorem awake_2 : line (awakeB.drop 20) = .ok ([[115, 101, 116], [97], [98, 32, 99]], 12) := by
  have e : fnd 10 (awakeB.drop 20) = 11 := by decide
  unfold line
  rw [e]
  simp [awakeB, bare, wordsA, skipB, wordA, quotedA, blank]

theorem awake_3 : first parseV [42, 49] = .wait := by
  unfold first bulks count
  have e : fnd 13 [42, 49] = -1 := by decide
  simp [e]

theorem split_awake : split parseV awakeB = ([[[71, 69, 84], [97]], [[115, 101, 116], [97], [98, 32, 99]]], 32, []) := by
  unfold split
  rw [splitA_ok _ awake_1]
  have e : first parseV (awakeB.drop 20) = line (awakeB.drop 20) := by
    unfold first; simp [awakeB]
  rw [splitA_ok _ (e.trans awake_2)]
  have e2 : (awakeB.drop 20).drop 12 = [42, 49] := rfl
  rw [e2, splitA_wait _ awake_3]
  simp

theorem split_pi : split parseV [80, 73] = ([], 0, []) := by
  unfold split
  have e : first parseV [80, 73] = .wait := by
    unfold first line
    have e : fnd 10 [80, 73] = -1 := by decide
    simp [e]
  rw [splitA_wait _ e]

theorem split_ping : split parseV [80, 73, 78, 71, 10] = ([[[80, 73, 78, 71]]], 5, []) := by
  unfold split
  have e : first parseV [80, 73, 78, 71, 10] = .ok ([[80, 73, 78, 71]], 5) := by
    unfold first line
    have e : fnd 10 [80, 73, 78, 71, 10] = 4 := by decide
    simp [e, bare, wordsA, skipB, wordA, blank]
  rw [splitA_ok _ e]
  have e2 : first parseV (([80, 73, 78, 71, 10] : Bs).drop 5) = .wait := rfl
  rw [splitA_wait _ e2]
  simp

theorem split_plus : split parseV [42, 49, 13, 10, 43] = ([], 0, fExp ++ [43, 39]) := by
  unfold split
  have e : first parseV [42, 49, 13, 10, 43] = .wrong (fExp ++ [43, 39]) := by
    have hp : parseV [49] = (1, 0) := by have := numbers.back 1 (by omega); rw [dec_small (by omega)] at this; exact this
    unfold first bulks count
    have e : fnd 13 [42, 49, 13, 10, 43] = 2 := by decide
    simp [e, hp, bulksA, bulk, shown]
  rw [splitA_wrong _ e]
end Go.Proofs.YtdfkdbdhaaiadaaDoor
