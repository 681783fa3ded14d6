/- Merged: All replies of some bytes: plain words. -/
import Derived.Test.YtpekeilpdbdnnaaDoorZYq8
set_option linter.all false
namespace Go.Proofs.YtpekeilpdbdnnaaDoor

theorem mustB_len {c : UInt8} {l r : Bs} (h : mustB c l = .ok r) : r.length ≤ l.length := by
  cases l with
  | nil => cases h
  | cons d t =>
    rw [mustB] at h
    split at h
    · cases h; simp
    · cases h
theorem endB_len {l r : Bs} (h : endB l = .ok r) : r.length ≤ l.length := by
  unfold endB at h
  cases h1 : mustB 13 l with
  | error e => rw [h1] at h; cases h
  | ok t =>
    rw [h1] at h
    have := mustB_len h1
    have := mustB_len (show mustB 10 t = .ok r from h)
    omega
theorem lineO_shr : ∀ (l : Bs) (k : Nat) {s q : Bs}, lineO k l = .ok (s, q) → q.length ≤ l.length
  | [], k, s, q, h => by rw [lineO] at h; cases h
  | c :: r, k, s, q, h => by
    rw [lineO] at h
    split at h
    · cases h; exact Nat.le_refl _
    · split at h
      · cases h
      · cases h1 : lineO (k - 1) r with
        | error e => rw [h1] at h; cases h
        | ok v =>
          obtain ⟨s', t⟩ := v
          rw [h1] at h
          cases h
          have := lineO_shr r (k - 1) h1
          simp only [List.length_cons]
          omega
theorem lineE_shr {l s q : Bs} (h : lineE l = .ok (s, q)) : q.length ≤ l.length := by
  unfold lineE at h
  cases h1 : lineO 65536 l with
  | error e => rw [h1] at h; cases h
  | ok v =>
    obtain ⟨s', t⟩ := v
    rw [h1] at h
    simp only at h
    cases h2 : endB t with
    | error e => rw [h2] at h; cases h
    | ok t2 =>
      rw [h2] at h
      cases h
      have := lineO_shr l _ h1
      have := endB_len h2
      omega
theorem numbB_shr {most u : Nat} {l q : Bs} (h : numbB most l = .ok (u, q)) : q.length ≤ l.length := (digB_le l 0 true (Nat.zero_le _) h).2.2
theorem cntB_shr {most : Nat} {l q : Bs} {o : Option Nat} (h : cntB most l = .ok (o, q)) : q.length ≤ l.length := by
  cases l with
  | nil => cases h
  | cons c r =>
    rw [cntB] at h
    by_cases h45 : c = 45
    · rw [if_pos h45] at h
      cases h49 : mustB 49 r with
      | error e => rw [h49] at h; cases h
      | ok t =>
        rw [h49] at h
        cases h
        have := mustB_len h49
        simp only [List.length_cons]
        omega
    · rw [if_neg h45] at h
      cases hn : numbB most (c :: r) with
      | error e => rw [hn] at h; cases h
      | ok v =>
        obtain ⟨n', t⟩ := v
        rw [hn] at h
        cases h
        exact numbB_shr hn
theorem countB_shr {most : Nat} {l q : Bs} {o : Option Nat} (h : countB most l = .ok (o, q)) : q.length ≤ l.length := by
  rw [count_cntE] at h
  unfold cntE at h
  cases h1 : cntB most l with
  | error e => rw [h1] at h; cases h
  | ok v =>
    obtain ⟨o', t⟩ := v
    rw [h1] at h
    simp only at h
    cases h2 : endB t with
    | error e => rw [h2] at h; cases h
    | ok t2 =>
      rw [h2] at h
      cases h
      have := cntB_shr h1
      have := endB_len h2
      omega
theorem integerB_shr {l q : Bs} {n : Int} (h : integerB l = .ok (n, q)) : q.length ≤ l.length := by
  unfold integerB at h
  cases l with
  | nil => cases h
  | cons c r =>
    simp only [nextB] at h
    by_cases h45 : c = 45
    · simp only [if_pos h45, List.drop_succ_cons, List.drop_zero] at h
      cases r with
      | nil => cases h
      | cons d r2 =>
        simp only at h
        by_cases h48 : d = 48
        · simp only [if_pos h48] at h; cases h
        · simp only [if_neg h48] at h
          cases h1 : numbB 9223372036854775808 (d :: r2) with
          | error e => rw [h1] at h; cases h
          | ok v =>
            obtain ⟨u, t⟩ := v
            rw [h1] at h
            cases h
            have := numbB_shr h1
            simp only [List.length_cons] at this ⊢
            omega
    · simp only [if_neg h45] at h
      cases h1 : numbB 9223372036854775807 (c :: r) with
      | error e => rw [h1] at h; cases h
      | ok v =>
        obtain ⟨u, t⟩ := v
        rw [h1] at h
        cases h
        exact numbB_shr h1
theorem bulkE_shr {l q : Bs} {x : Rep} (h : bulkE l = .ok (x, q)) : q.length ≤ l.length := by
  unfold bulkE at h
  cases h1 : countB 65536 l with
  | error e => rw [h1] at h; cases h
  | ok v =>
    obtain ⟨o, t⟩ := v
    have := countB_shr h1
    rw [h1] at h
    cases o with
    | none => cases h; exact this
    | some n =>
      simp only at h
      split at h
      · cases h
      · cases h2 : endB (t.drop n) with
        | error e => rw [h2] at h; cases h
        | ok t2 =>
          rw [h2] at h
          cases h
          have := endB_len h2
          rw [List.length_drop] at this
          omega
theorem itemsB_shr {f : Bs → Except Flt (Rep × Bs)} (hf : ∀ l x q, f l = .ok (x, q) → q.length ≤ l.length) : ∀ (n : Nat) (l : Bs) {L : List Rep} {q : Bs}, itemsB f n l = .ok (L, q) → q.length ≤ l.length
  | 0, l, L, q, h => by cases h; exact Nat.le_refl _
  | n + 1, l, L, q, h => by
    rw [itemsB] at h
    cases h1 : f l with
    | error e => rw [h1] at h; cases h
    | ok v =>
      obtain ⟨x, t⟩ := v
      rw [h1] at h
      simp only at h
      cases h2 : itemsB f n t with
      | error e => rw [h2] at h; cases h
      | ok v =>
        obtain ⟨L', t2⟩ := v
        rw [h2] at h
        cases h
        have := hf _ _ _ h1
        have := itemsB_shr hf n t h2
        omega
theorem repX_shr {arr : Bs → Except Flt (Rep × Bs)} (ha : ∀ l x q, arr l = .ok (x, q) → q.length ≤ l.length) {l q : Bs} {x : Rep} (h : repX arr l = .ok (x, q)) : q.length < l.length := by
  cases l with
  | nil => cases h
  | cons c t =>
    rw [repX_cons] at h
    have key : q.length ≤ t.length := by
      split at h
      · unfold andB at h
        cases h1 : lineE t with
        | error e => rw [h1] at h; cases h
        | ok v => obtain ⟨s, r⟩ := v; rw [h1] at h; cases h; exact lineE_shr h1
      · split at h
        · unfold andB at h
          cases h1 : lineE t with
          | error e => rw [h1] at h; cases h
          | ok v => obtain ⟨s, r⟩ := v; rw [h1] at h; cases h; exact lineE_shr h1
        · split at h
          · unfold andB unitB at h
            cases h1 : integerB t with
            | error e => rw [h1] at h; cases h
            | ok v =>
              obtain ⟨n, r⟩ := v
              rw [h1] at h
              simp only at h
              cases h2 : endB r with
              | error e => rw [h2] at h; cases h
              | ok z =>
                rw [h2] at h
                cases h
                have := integerB_shr h1
                have := endB_len h2
                omega
          · split at h
            · exact bulkE_shr h
            · split at h
              · exact ha _ _ _ h
              · cases h
    simp only [List.length_cons]
    omega
theorem arr0_shr (l : Bs) (x : Rep) (q : Bs) (h : arr0 l = .ok (x, q)) : q.length ≤ l.length := by
  unfold arr0 andB unitB at h
  cases h1 : mustB 45 l with
  | error e => rw [h1] at h; cases h
  | ok r1 =>
    rw [h1] at h
    simp only at h
    cases h2 : mustB 49 r1 with
    | error e => rw [h2] at h; cases h
    | ok r2 =>
      rw [h2] at h
      simp only at h
      cases h3 : endB r2 with
      | error e => rw [h3] at h; cases h
      | ok r3 =>
        rw [h3] at h
        cases h
        have := mustB_len h1
        have := mustB_len h2
        have := endB_len h3
        omega
theorem repE_shr : ∀ (k : Nat) {l q : Bs} {x : Rep}, repE k l = .ok (x, q) → q.length < l.length
  | 0, l, q, x, h => by
    rw [repX_eq (k := 0) (arr := arr0) (fun t => repE0 t)] at h
    exact repX_shr arr0_shr h
  | k + 1, l, q, x, h => by
    rw [repX_eq (k := k + 1) (arr := arrS k) (fun t => repES k t)] at h
    refine repX_shr (fun l x q h => ?_) h
    unfold arrS andB at h
    cases h1 : countB 131072 l with
    | error e => rw [h1] at h; cases h
    | ok v =>
      obtain ⟨o, t⟩ := v
      have := countB_shr h1
      rw [h1] at h
      cases o with
      | none => cases h; exact this
      | some n =>
        simp only at h
        cases h2 : itemsB (repE k) n t with
        | error e => rw [h2] at h; cases h
        | ok v =>
          obtain ⟨L, t2⟩ := v
          rw [h2] at h
          cases h
          have := itemsB_shr (fun l x q h => Nat.le_of_lt (repE_shr k h)) n t h2
          omega
theorem decP_cases (b : Bs) : ((decP b).2.2 = 0 ∧ 1 ≤ (decP b).2.1 ∧ (decP b).2.1 ≤ b.length) ∨ ((decP b).2.2 = 31 ∧ (decP b).2.1 ≤ b.length) ∨ ((decP b).2.2 = 30 ∧ (decP b).2.1 ≤ b.length) := by
  unfold decP
  cases h : repE 8 b with
  | ok v =>
    obtain ⟨x, r⟩ := v
    have := repE_shr 8 h
    exact .inl ⟨rfl, by simp only; omega, by simp only; omega⟩
  | error f =>
    obtain ⟨m, s⟩ := f
    cases s with
    | true => exact .inr (.inl ⟨rfl, Nat.sub_le _ _⟩)
    | false => exact .inr (.inr ⟨rfl, Nat.sub_le _ _⟩)

/-- All replies of some bytes, how many bytes they are, what is wrong behind them. -/
def allF : Nat → Bs → List Rep × Nat × Int
  | 0, _ => ([], 0, 0)
  | m + 1, b => if (decP b).2.2 = 0 then ((decP b).1 :: (allF m (b.drop (decP b).2.1)).1, (decP b).2.1 + (allF m (b.drop (decP b).2.1)).2.1, (allF m (b.drop (decP b).2.1)).2.2)
    else if (decP b).2.2 = 31 then ([], 0, 0) else ([], (decP b).2.1, (decP b).2.2)
def allB (b : Bs) : List Rep × Nat × Int := allF (b.length + 1) b
def mapA (D : List Rep) (k : Nat) (x : List Rep × Nat × Int) : List Rep × Nat × Int := (D ++ x.1, k + x.2.1, x.2.2)
theorem mapA_next {b : Bs} {m : Nat} (D : List Rep) (k : Nat) (h : (decP b).2.2 = 0) : mapA D k (allF (m + 1) b) = mapA (D ++ [(decP b).1]) (k + (decP b).2.1) (allF m (b.drop (decP b).2.1)) := by
  rw [allF, if_pos h]
  simp [mapA, Nat.add_assoc]
theorem mapA_short {b : Bs} {m : Nat} (D : List Rep) (k : Nat) (h : (decP b).2.2 = 31) : mapA D k (allF (m + 1) b) = (D, k, 0) := by
  rw [allF, if_neg (by omega), if_pos h]
  simp [mapA]
theorem mapA_wrong {b : Bs} {m : Nat} (D : List Rep) (k : Nat) (h : (decP b).2.2 = 30) : mapA D k (allF (m + 1) b) = (D, k + (decP b).2.1, 30) := by
  rw [allF, if_neg (by omega), if_neg (by omega), h]
  simp [mapA]
end Go.Proofs.YtpekeilpdbdnnaaDoor
