/- Merged: The script of a text, by the document: plain. -/
import Derived.Test.YtdinkdmkbfbjbaaGreatDoorZSa
set_option linter.all false
namespace Go.Proofs.YtdinkdmkbfbjbaaGreatDoor
open Go.RowKit

theorem linesF_len : ∀ (s cur x : Bs), x ∈ (linesF cur s).1 → x.length ≤ cur.length + s.length
  | [], cur, x, h => by simp [linesF] at h
  | c :: r, cur, x, h => by
    rw [linesF] at h
    split at h
    · rcases List.mem_cons.1 h with rfl | h
      · simp
      · have := linesF_len r [] x h
        simp only [List.length_nil, List.length_cons] at this ⊢
        omega
    · have := linesF_len r _ x h
      simp only [List.length_append, List.length_singleton, List.length_cons, List.length_nil] at this ⊢
      omega
theorem linesF_rest : ∀ (s cur : Bs), (linesF cur s).2.length ≤ cur.length + s.length
  | [], cur => by simp [linesF]
  | c :: r, cur => by
    rw [linesF]
    split
    · have := linesF_rest r []
      simp only [List.length_nil, List.length_cons] at this ⊢
      omega
    · have := linesF_rest r (cur ++ [c])
      simp only [List.length_append, List.length_singleton, List.length_cons, List.length_nil] at this ⊢
      omega
theorem linesF_many : ∀ (s cur : Bs), (linesF cur s).1.length ≤ s.length
  | [], cur => by simp [linesF]
  | c :: r, cur => by
    rw [linesF]
    split
    · have := linesF_many r []
      simp only [List.length_cons]
      omega
    · have := linesF_many r (cur ++ [c])
      simp only [List.length_cons]
      omega
theorem short_small {s : Bs} (h : s.length ≤ 9000) : ShortL s :=
  ⟨fun x hx => by have := linesF_len s [] x hx; simp only [List.length_nil] at this; omega, by have := linesF_rest s []; simp only [List.length_nil] at this; unfold linesS; omega⟩

/-- All lines, the last one too. -/
def allL (s : Bs) : List Bs := (linesS s).1 ++ (if (linesS s).2 = [] then [] else [(linesS s).2])
theorem allL_len {s : Bs} : (allL s).length ≤ s.length + 1 := by
  unfold allL
  have := linesF_many s []
  rw [List.length_append]
  have h2 : (if (linesS s).2 = [] then ([] : List Bs) else [(linesS s).2]).length ≤ 1 := by split <;> simp
  unfold linesS at *
  omega
theorem allL_short {s : Bs} : ∀ x ∈ allL s, x.length ≤ s.length := by
  intro x hx
  unfold allL at hx
  rcases List.mem_append.1 hx with hx | hx
  · have := linesF_len s [] x hx; simpa using this
  · split at hx
    · cases hx
    · obtain rfl := List.mem_singleton.1 hx
      have := linesF_rest s []
      unfold linesS
      simpa using this

noncomputable def readR (s : Bs) : Except Nat (Conf × List Deed) :=
  match allL s with
  | [] => .error 0
  | l :: ls => match settingsR l with
    | none => .error 0
    | some c => match goOver 1 ls [] with
      | .error k => .error k
      | .ok ds => if (linesS s).2 = [] then .ok (c, ds) else .error ls.length

theorem goOver_snoc : ∀ (L : List Bs) (x : Bs) (n : Nat) (ds : List Deed),
    goOver n (L ++ [x]) ds = match goOver n L ds with | .error k => .error k | .ok es => (match parseP x with | some d => .ok (es ++ [d]) | none => .error (n + L.length))
  | [], x, n, ds => by
    simp only [List.nil_append, goOver]
    cases parseP x <;> rfl
  | l :: L, x, n, ds => by
    rw [List.cons_append, goOver, goOver]
    cases parseP l with
    | none => rfl
    | some d =>
      simp only
      rw [goOver_snoc L x (n + 1) (ds ++ [d])]
      cases goOver (n + 1) L (ds ++ [d]) with
      | error k => rfl
      | ok es =>
        simp only
        cases parseP x with
        | none => simp only [List.length_cons]; rw [show n + 1 + L.length = n + (L.length + 1) by omega]
        | some e => rfl

theorem readR_D (s : Bs) : readR s = readD s := by
  unfold readR readD allL
  cases h1 : (linesS s).1 with
  | nil =>
    by_cases h2 : (linesS s).2 = []
    · rw [h2]; rfl
    · rw [if_neg h2]
      simp only [List.nil_append]
      cases settingsR (linesS s).2 with
      | none => rfl
      | some c => simp [goOver, h2]
  | cons l ls =>
    by_cases h2 : (linesS s).2 = []
    · rw [h2]
      simp only [if_true, List.append_nil]
      rw [settingsR_P]
      cases settingsP l with
      | none => rfl
      | some c => simp only; cases goOver 1 ls [] <;> rfl
    · rw [if_neg h2]
      simp only [List.cons_append]
      rw [settingsR_P]
      cases settingsP l with
      | none => rfl
      | some c =>
        simp only
        rw [goOver_snoc]
        cases goOver 1 ls [] with
        | error k => rfl
        | ok es =>
          simp only
          cases parseP (linesS s).2 with
          | none => simp [h2, Nat.add_comm]
          | some e => simp [h2]
end Go.Proofs.YtdinkdmkbfbjbaaGreatDoor
