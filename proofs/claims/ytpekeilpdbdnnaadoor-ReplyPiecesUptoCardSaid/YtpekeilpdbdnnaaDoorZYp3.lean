/- Merged: Replies, in plain words; Replies, in plain words: there and back; Replies, in plain words: a beginning is no reply; Texts, as the walk has them (as XStr, over the replies' plain words); Rows of structs in memory; rows that the call itself has made; Replies in memory; Whether a reply may be, by the program: rows of which some element is so; Whether a reply may be, by the program: its depth; Whether a reply may be, by the program: its parts. -/
import Derived.Test.YtpekeilpdbdnnaaDoorZFloat
import Derived.Lib.ItoaMem
import Derived.Test.YtpekeilpdbdnnaaDoorShelf
import Derived.Test.YtpekeilpdbdnnaaDoorProg
import Derived.WalkKit
import Derived.WalkSpells
import Derived.KernelRfl
import Derived.Lib.Hide
import Derived.BigQuiet
import Derived.Lib.IndexAny
set_option linter.all false
namespace Go.Proofs.YtpekeilpdbdnnaaDoor

abbrev Bs := List UInt8
/-- A reply. -/
inductive Rep where
  | mk (kind : Int) (s : Bs) (n : Int) (l : List Rep)
def Rep.kind : Rep → Int | .mk k _ _ _ => k
def Rep.s : Rep → Bs | .mk _ s _ _ => s
def Rep.n : Rep → Int | .mk _ _ n _ => n
def Rep.l : Rep → List Rep | .mk _ _ _ l => l

/-- Do arrays stand in one another deeper than k? -/
def nestedB : Nat → Rep → Bool
  | 0, r => decide (r.kind = 6)
  | k + 1, r => decide (r.kind = 6) && r.l.any (nestedB k)
/-- How deep, as far as that is at most m. -/
def deepB : Nat → Rep → Nat
  | 0, _ => 0
  | m + 1, r => if r.kind = 6 then (r.l.map (deepB m)).foldl max 0 + 1 else 0
def lineB (s : Bs) : Bool := decide (s.length ≤ 65536) && !(s.contains 13) && !(s.contains 10)
mutual
def rightR : Rep → Bool
  | .mk k s n l =>
    if k = 1 ∨ k = 2 then lineB s && (decide (n = 0) && l.isEmpty)
    else if k = 3 then s.isEmpty && l.isEmpty
    else if k = 4 then decide (s.length ≤ 65536) && (decide (n = 0) && l.isEmpty)
    else if k = 5 ∨ k = 7 then s.isEmpty && (decide (n = 0) && l.isEmpty)
    else if k = 6 then decide (l.length ≤ 131072) && rightsR l && (s.isEmpty && decide (n = 0))
    else false
def rightsR : List Rep → Bool
  | [] => true
  | r :: t => rightR r && rightsR t
end
def checkR (r : Rep) : Int := if nestedB 8 r then 32 else if rightR r then 0 else 30
mutual
def sameR : Rep → Rep → Bool
  | .mk k s n l, .mk k' s' n' l' => decide (k = k') && decide (s = s') && decide (n = n') && samesR l l'
def samesR : List Rep → List Rep → Bool
  | [], [] => true
  | a :: x, b :: y => sameR a b && samesR x y
  | _, _ => false
end

theorem foldl_max_le (m k : Nat) : ∀ (l : List Nat) (a : Nat), (∀ x ∈ l, x ≤ k) → a ≤ k → l.foldl max a ≤ k
  | [], _, _, h => h
  | x :: l, a, hl, h => foldl_max_le m k l (max a x) (fun y hy => hl y (List.mem_cons_of_mem _ hy)) (Nat.max_le.2 ⟨h, hl x (List.mem_cons_self ..)⟩)
theorem le_foldl_max : ∀ (l : List Nat) (a : Nat), a ≤ l.foldl max a ∧ ∀ x ∈ l, x ≤ l.foldl max a
  | [], a => ⟨Nat.le_refl _, fun x h => by cases h⟩
  | x :: l, a => by
    obtain ⟨h1, h2⟩ := le_foldl_max l (max a x)
    refine ⟨Nat.le_trans (Nat.le_max_left _ _) h1, fun y hy => ?_⟩
    rcases List.mem_cons.1 hy with rfl | hy
    · exact Nat.le_trans (Nat.le_max_right _ _) h1
    · exact h2 y hy
/-- The two measures of depth agree. -/
theorem deep_nested : ∀ (k : Nat) (r : Rep), (k < deepB (k + 1) r ↔ nestedB k r = true)
  | 0, r => by
    unfold deepB nestedB
    by_cases h : r.kind = 6
    · rw [if_pos h]; simp [h]
    · rw [if_neg h]; simp [h]
  | k + 1, r => by
    unfold deepB nestedB
    by_cases h : r.kind = 6
    · rw [if_pos h, Bool.and_eq_true, decide_eq_true_eq, List.any_eq_true]
      constructor
      · intro hd
        refine ⟨h, ?_⟩
        have hk : ¬ ∀ x ∈ r.l.map (deepB (k + 1)), x ≤ k := fun hall => by
          have := foldl_max_le 0 k _ 0 hall (Nat.zero_le _)
          omega
        have hk2 : ∃ x ∈ r.l, ¬ deepB (k + 1) x ≤ k := Classical.byContradiction fun hn => hk fun y hy => by
          obtain ⟨x, hx, rfl⟩ := List.mem_map.1 hy
          exact Classical.byContradiction fun hx2 => hn ⟨x, hx, hx2⟩
        obtain ⟨x, hx, hx2⟩ := hk2
        exact ⟨x, hx, (deep_nested k x).1 (by omega)⟩
      · rintro ⟨_, x, hx, hn⟩
        have h1 := (deep_nested k x).2 hn
        have h2 := (le_foldl_max (r.l.map (deepB (k + 1))) 0).2 _ (List.mem_map_of_mem hx)
        omega
    · rw [if_neg h]; simp [h]

/-- Where bytes go on as none do, or end too early: how many are left; are they too few? -/
abbrev Flt := Nat × Bool
def nextB : Bs → Except Flt UInt8
  | [] => .error (0, true)
  | c :: _ => .ok c
def mustB (c : UInt8) : Bs → Except Flt Bs
  | [] => .error (0, true)
  | d :: r => if d = c then .ok r else .error (r.length + 1, false)
def endB (t : Bs) : Except Flt Bs := match mustB 13 t with | .ok r => mustB 10 r | .error e => .error e
def digB (most : Nat) : Bs → Nat → Bool → Except Flt (Nat × Bs)
  | [], _, _ => .error (0, true)
  | c :: r, n, first =>
    if c < 48 ∨ 57 < c ∨ (first = false ∧ n = 0) ∨ most < n * 10 + (c.toNat - 48) then
      if first then .error (r.length + 1, false) else .ok (n, c :: r)
    else digB most r (n * 10 + (c.toNat - 48)) false
def numbB (most : Nat) (t : Bs) : Except Flt (Nat × Bs) := digB most t 0 true
def lineO : Nat → Bs → Except Flt (Bs × Bs)
  | _, [] => .error (0, true)
  | k, c :: r => if c = 13 then .ok ([], c :: r) else if c = 10 ∨ k = 0 then .error (r.length + 1, false)
    else match lineO (k - 1) r with | .ok (s, q) => .ok (c :: s, q) | .error e => .error e
def lineE (t : Bs) : Except Flt (Bs × Bs) := match lineO 65536 t with
  | .error e => .error e
  | .ok (s, q) => match endB q with | .ok r => .ok (s, r) | .error e => .error e
/-- How many; none: nil. -/
def countB (most : Nat) (t : Bs) : Except Flt (Option Nat × Bs) := match nextB t with
  | .error e => .error e
  | .ok c => match (if c = 45 then (match mustB 45 t with | .error e => .error e | .ok r => match mustB 49 r with | .error e => .error e | .ok q => .ok (none, q)) else (match numbB most t with | .error e => .error e | .ok (n, q) => .ok (some n, q)) : Except Flt (Option Nat × Bs)) with
    | .error e => .error e
    | .ok (n, q) => match endB q with | .ok r => .ok (n, r) | .error e => .error e
def integerB (t : Bs) : Except Flt (Int × Bs) := match nextB t with
  | .error e => .error e
  | .ok c => if c = 45 then (match nextB (t.drop 1) with
      | .error e => .error e
      | .ok d => if d = 48 then .error ((t.drop 1).length, false) else match numbB 9223372036854775808 (t.drop 1) with | .error e => .error e | .ok (n, q) => .ok (-(n : Int), q))
    else match numbB 9223372036854775807 t with | .error e => .error e | .ok (n, q) => .ok ((n : Int), q)
def bulkE (t : Bs) : Except Flt (Rep × Bs) := match countB 65536 t with
  | .error e => .error e
  | .ok (none, q) => .ok (.mk 5 [] 0 [], q)
  | .ok (some n, q) => if q.length < n then .error (0, true) else match endB (q.drop n) with | .error e => .error e | .ok r => .ok (.mk 4 (q.take n) 0 [], r)
def itemsB (f : Bs → Except Flt (Rep × Bs)) : Nat → Bs → Except Flt (List Rep × Bs)
  | 0, t => .ok ([], t)
  | n + 1, t => match f t with
    | .error e => .error e
    | .ok (x, q) => match itemsB f n q with | .error e => .error e | .ok (l, r) => .ok (x :: l, r)
/-- A reply; k: how many arrays may still stand in it. -/
def repE : Nat → Bs → Except Flt (Rep × Bs)
  | _, [] => .error (0, true)
  | k, c :: t =>
    if c = 43 then (match lineE t with | .error e => .error e | .ok (s, q) => .ok (.mk 1 s 0 [], q))
    else if c = 45 then (match lineE t with | .error e => .error e | .ok (s, q) => .ok (.mk 2 s 0 [], q))
    else if c = 58 then (match integerB t with | .error e => .error e | .ok (n, q) => match endB q with | .error e => .error e | .ok r => .ok (.mk 3 [] n [], r))
    else if c = 36 then bulkE t
    else if c = 42 then match k with
      | 0 => match mustB 45 t with | .error e => .error e | .ok r => match mustB 49 r with | .error e => .error e | .ok q => match endB q with | .error e => .error e | .ok z => .ok (.mk 7 [] 0 [], z)
      | k + 1 => match countB 131072 t with
        | .error e => .error e
        | .ok (none, q) => .ok (.mk 7 [] 0 [], q)
        | .ok (some n, q) => match itemsB (repE k) n q with | .error e => .error e | .ok (l, r) => .ok (.mk 6 [] 0 l, r)
    else .error (t.length + 1, false)
end Go.Proofs.YtpekeilpdbdnnaaDoor
namespace Go.Proofs.YtpekeilpdbdnnaaDoor

mutual
def bytesR : Rep → Bs
  | .mk k s n l =>
    if k = 1 then 43 :: (s ++ [13, 10])
    else if k = 2 then 45 :: (s ++ [13, 10])
    else if k = 3 then 58 :: (Lib.itoa n ++ [13, 10])
    else if k = 4 then 36 :: (Lib.itoa s.length ++ ([13, 10] ++ (s ++ [13, 10])))
    else if k = 5 then [36, 45, 49, 13, 10]
    else if k = 7 then [42, 45, 49, 13, 10]
    else 42 :: (Lib.itoa l.length ++ ([13, 10] ++ bytesL l))
def bytesL : List Rep → Bs
  | [] => []
  | r :: t => bytesR r ++ bytesL t
end
/-- Do the numbers fit, as deep as k? -/
def fitR : Nat → Rep → Prop
  | 0, r => -9223372036854775808 ≤ r.n ∧ r.n ≤ 9223372036854775807
  | k + 1, r => (-9223372036854775808 ≤ r.n ∧ r.n ≤ 9223372036854775807) ∧ ∀ x ∈ r.l, fitR k x

theorem digit_nat (d : Nat) (h : d < 10) : (UInt8.ofNat (48 + d)).toNat = 48 + d := by
  rw [UInt8.toNat_ofNat']
  omega
theorem digB_step {most : Nat} {c : UInt8} {r : Bs} {n : Nat} {first : Bool} {d : Nat} (hd : d < 10) (hc : c = UInt8.ofNat (48 + d)) (h1 : ¬ (first = false ∧ n = 0)) (h2 : n * 10 + d ≤ most) : digB most (c :: r) n first = digB most r (n * 10 + d) false := by
  have ht : c.toNat = 48 + d := by rw [hc]; exact digit_nat d hd
  have e : c.toNat - 48 = d := by omega
  rw [digB, if_neg, e]
  rw [e]
  rintro (h | h | h | h)
  · have := UInt8.lt_iff_toNat_lt.1 h
    rw [ht] at this
    have h48 : (48 : UInt8).toNat = 48 := rfl
    omega
  · have := UInt8.lt_iff_toNat_lt.1 h
    rw [ht] at this
    have h57 : (57 : UInt8).toNat = 57 := rfl
    omega
  · exact h1 h
  · omega
theorem digB_num {most : Nat} : ∀ (u : Nat) (t : Bs), u ≤ most → digB most (Lib.decDigits u ++ t) 0 true = digB most t u false := by
  intro u
  induction u using Nat.strongRecOn with
  | ind u ih =>
    intro t hu
    rw [Lib.decDigits]
    by_cases h : u < 10
    · rw [dif_pos h]
      show digB most (UInt8.ofNat (48 + u) :: t) 0 true = _
      rw [digB_step h rfl (by simp) (by omega)]
      simp
    · rw [dif_neg h, List.append_assoc, ih (u / 10) (by omega) _ (by omega)]
      show digB most (UInt8.ofNat (48 + u % 10) :: t) (u / 10) false = _
      rw [digB_step (by omega) rfl (by omega) (by omega)]
      congr 1
      omega
theorem numbB_app {most u : Nat} (h : u ≤ most) (t : Bs) : numbB most (Lib.decDigits u ++ (13 :: t)) = .ok (u, 13 :: t) := by
  unfold numbB
  rw [digB_num u _ h, digB, if_pos (.inl (by decide))]
  rfl
theorem endB_app (t : Bs) : endB (13 :: 10 :: t) = .ok t := rfl
theorem lineO_app : ∀ (s : Bs) (k : Nat) (t : Bs), s.length ≤ k → (∀ c ∈ s, c ≠ 13 ∧ c ≠ 10) → lineO k (s ++ (13 :: t)) = .ok (s, 13 :: t)
  | [], k, t, _, _ => by cases k <;> rfl
  | c :: s, k, t, hk, hs => by
    obtain ⟨h1, h2⟩ := hs c (List.mem_cons_self ..)
    obtain ⟨k, rfl⟩ : ∃ j, k = j + 1 := ⟨k - 1, by simp at hk; omega⟩
    rw [List.cons_append, lineO, if_neg h1, if_neg (by simp [h2])]
    rw [Nat.add_sub_cancel, lineO_app s k t (by simp at hk; omega) (fun d hd => hs d (List.mem_cons_of_mem _ hd))]
theorem lineE_app {s : Bs} (h : lineB s = true) (t : Bs) : lineE (s ++ (13 :: 10 :: t)) = .ok (s, t) := by
  unfold lineB at h
  simp only [Bool.and_eq_true, decide_eq_true_eq, Bool.not_eq_true', List.contains_eq_mem, decide_eq_false_iff_not] at h
  unfold lineE
  rw [lineO_app s 65536 _ h.1.1 (fun c hc => ⟨fun e => h.1.2 (e ▸ hc), fun e => h.2 (e ▸ hc)⟩)]
  rfl
theorem dec_head (u : Nat) (t : Bs) : ∃ c r, Lib.decDigits u ++ t = c :: r ∧ c ≠ 45 ∧ (c = 48 → u = 0) := by
  induction u using Nat.strongRecOn generalizing t with
  | ind u ih =>
    rw [Lib.decDigits]
    by_cases h : u < 10
    · rw [dif_pos h]
      refine ⟨UInt8.ofNat (48 + u), t, rfl, fun e => ?_, fun e => ?_⟩
      · have := congrArg UInt8.toNat e
        rw [digit_nat u h] at this
        have h45 : (45 : UInt8).toNat = 45 := rfl
        omega
      · have := congrArg UInt8.toNat e
        rw [digit_nat u h] at this
        have h48 : (48 : UInt8).toNat = 48 := rfl
        omega
    · rw [dif_neg h, List.append_assoc]
      obtain ⟨c, r, e, h1, h2⟩ := ih (u / 10) (by omega) ([UInt8.ofNat (48 + u % 10)] ++ t)
      exact ⟨c, r, e, h1, fun hc => by have := h2 hc; omega⟩
theorem countB_app {most u : Nat} (h : u ≤ most) (t : Bs) : countB most (Lib.decDigits u ++ (13 :: 10 :: t)) = .ok (some u, t) := by
  obtain ⟨c, r, e, h1, _⟩ := dec_head u (13 :: 10 :: t)
  have hn := numbB_app h (10 :: t)
  unfold countB
  rw [e] at hn ⊢
  simp only [nextB, if_neg h1, hn]
  rfl
theorem integerB_app {n : Int} (h1 : -9223372036854775808 ≤ n) (h2 : n ≤ 9223372036854775807) (t : Bs) : integerB (Lib.itoa n ++ (13 :: t)) = .ok (n, 13 :: t) := by
  by_cases hn : n < 0
  · obtain ⟨u, rfl⟩ : ∃ u : Nat, n = -(u : Int) := ⟨n.natAbs, by omega⟩
    rw [Lib.itoa_neg u (by omega), List.cons_append]
    obtain ⟨c, r, e, _, h3⟩ := dec_head u (13 :: t)
    have hb := numbB_app (most := 9223372036854775808) (u := u) (by omega) t
    unfold integerB
    simp only [nextB, if_true, List.drop_succ_cons, List.drop_zero]
    rw [e] at hb ⊢
    simp only [nextB]
    rw [if_neg (fun hc => by have := h3 hc; omega), hb]
  · obtain ⟨u, rfl⟩ : ∃ u : Nat, n = (u : Int) := ⟨n.natAbs, by omega⟩
    rw [Lib.itoa_nonneg u]
    obtain ⟨c, r, e, h4, _⟩ := dec_head u (13 :: t)
    have hb := numbB_app (most := 9223372036854775807) (u := u) (by omega) t
    unfold integerB
    rw [e] at hb ⊢
    simp only [nextB, if_neg h4, hb]
theorem itoa_nat (u : Nat) : Lib.itoa (u : Int) = Lib.decDigits u := Lib.itoa_nonneg u
theorem bulkE_app {s : Bs} (h : s.length ≤ 65536) (t : Bs) : bulkE (Lib.itoa s.length ++ ([13, 10] ++ (s ++ [13, 10])) ++ t) = .ok (.mk 4 s 0 [], t) := by
  have e : Lib.itoa s.length ++ ([13, 10] ++ (s ++ [13, 10])) ++ t = Lib.decDigits s.length ++ (13 :: 10 :: (s ++ (13 :: 10 :: t))) := by
    rw [itoa_nat]; simp
  rw [e]
  unfold bulkE
  rw [countB_app h]
  simp only
  rw [if_neg (by rw [List.length_append]; omega), List.drop_left, endB_app, List.take_left]
theorem itemsB_app {f : Bs → Except Flt (Rep × Bs)} : ∀ (l : List Rep) (t : Bs), (∀ x ∈ l, ∀ t, f (bytesR x ++ t) = .ok (x, t)) → itemsB f l.length (bytesL l ++ t) = .ok (l, t)
  | [], t, _ => by unfold bytesL; rfl
  | x :: l, t, h => by
    rw [List.length_cons, itemsB, bytesL, List.append_assoc, h x (List.mem_cons_self ..)]
    simp only
    rw [itemsB_app l t (fun y hy => h y (List.mem_cons_of_mem _ hy))]
theorem rights_mem : ∀ {l : List Rep}, rightsR l = true → ∀ x ∈ l, rightR x = true
  | [], _, x, hx => by cases hx
  | a :: l, h, x, hx => by
    rw [rightsR, Bool.and_eq_true] at h
    rcases List.mem_cons.1 hx with rfl | hx
    · exact h.1
    · exact rights_mem h.2 x hx
theorem repE_43 (k : Nat) (t : Bs) : repE k (43 :: t) = match lineE t with | .error e => .error e | .ok (s, q) => .ok (.mk 1 s 0 [], q) := by cases k <;> rfl
theorem repE_45 (k : Nat) (t : Bs) : repE k (45 :: t) = match lineE t with | .error e => .error e | .ok (s, q) => .ok (.mk 2 s 0 [], q) := by cases k <;> rfl
theorem repE_58 (k : Nat) (t : Bs) : repE k (58 :: t) = match integerB t with | .error e => .error e | .ok (n, q) => match endB q with | .error e => .error e | .ok r => .ok (.mk 3 [] n [], r) := by cases k <;> rfl
theorem repE_36 (k : Nat) (t : Bs) : repE k (36 :: t) = bulkE t := by cases k <;> rfl
theorem leaf {k : Nat} {kk : Int} {s : Bs} {n : Int} {l : List Rep} {t : Bs} (hr : rightR (.mk kk s n l) = true) (h6 : ¬ kk = 6) (hf : fitR k (.mk kk s n l)) : repE k (bytesR (.mk kk s n l) ++ t) = .ok (.mk kk s n l, t) := by
  have hf' : -9223372036854775808 ≤ n ∧ n ≤ 9223372036854775807 := by
    cases k with
    | zero => exact hf
    | succ k => exact hf.1
  rw [rightR] at hr
  rw [bytesR]
  by_cases h1 : kk = 1
  · subst h1
    rw [if_pos (.inl rfl)] at hr
    simp only [Bool.and_eq_true, decide_eq_true_eq, List.isEmpty_iff] at hr
    obtain ⟨h2, rfl, rfl⟩ := hr
    rw [if_pos rfl]
    show repE k (43 :: (s ++ [13, 10] ++ t)) = _
    rw [show s ++ [13, 10] ++ t = s ++ (13 :: 10 :: t) by simp, repE_43, lineE_app h2]
  · rw [if_neg h1]
    by_cases h2 : kk = 2
    · subst h2
      rw [if_pos (.inr rfl)] at hr
      simp only [Bool.and_eq_true, decide_eq_true_eq, List.isEmpty_iff] at hr
      obtain ⟨h2, rfl, rfl⟩ := hr
      rw [if_pos rfl]
      show repE k (45 :: (s ++ [13, 10] ++ t)) = _
      rw [show s ++ [13, 10] ++ t = s ++ (13 :: 10 :: t) by simp, repE_45, lineE_app h2]
    · rw [if_neg (by simp [h1, h2])] at hr
      rw [if_neg h2]
      by_cases h3 : kk = 3
      · subst h3
        rw [if_pos rfl] at hr
        simp only [Bool.and_eq_true, List.isEmpty_iff] at hr
        obtain ⟨rfl, rfl⟩ := hr
        rw [if_pos rfl]
        show repE k (58 :: (Lib.itoa n ++ [13, 10] ++ t)) = _
        rw [show Lib.itoa n ++ [13, 10] ++ t = Lib.itoa n ++ (13 :: 10 :: t) by simp, repE_58, integerB_app hf'.1 hf'.2]
        rfl
      · rw [if_neg h3] at hr ⊢
        by_cases h4 : kk = 4
        · subst h4
          rw [if_pos rfl] at hr
          simp only [Bool.and_eq_true, decide_eq_true_eq, List.isEmpty_iff] at hr
          obtain ⟨h2, rfl, rfl⟩ := hr
          rw [if_pos rfl]
          show repE k (36 :: (Lib.itoa s.length ++ ([13, 10] ++ (s ++ [13, 10])) ++ t)) = _
          rw [repE_36, bulkE_app h2]
        · rw [if_neg h4] at hr ⊢
          by_cases h5 : kk = 5
          · subst h5
            rw [if_pos (.inl rfl)] at hr
            simp only [Bool.and_eq_true, decide_eq_true_eq, List.isEmpty_iff] at hr
            obtain ⟨rfl, rfl, rfl⟩ := hr
            rw [if_pos rfl]
            show repE k (36 :: (45 :: 49 :: 13 :: 10 :: t)) = _
            rw [repE_36]
            rfl
          · rw [if_neg h5]
            by_cases h7 : kk = 7
            · subst h7
              rw [if_pos (.inr rfl)] at hr
              simp only [Bool.and_eq_true, decide_eq_true_eq, List.isEmpty_iff] at hr
              obtain ⟨rfl, rfl, rfl⟩ := hr
              rw [if_pos rfl]
              cases k <;> rfl
            · rw [if_neg (by simp [h5, h7]), if_neg h6] at hr
              cases hr
/-- There and back. -/
theorem repE_app : ∀ (k : Nat) (r : Rep) (t : Bs), rightR r = true → nestedB k r = false → fitR k r → repE k (bytesR r ++ t) = .ok (r, t) := by
  intro k
  induction k with
  | zero =>
    intro r t hr hn hf
    obtain ⟨kk, s, n, l⟩ := r
    have hk6 : ¬ kk = 6 := of_decide_eq_false hn
    exact leaf hr hk6 hf
  | succ k ih =>
    intro r t hr hn hf
    obtain ⟨kk, s, n, l⟩ := r
    by_cases hk6 : kk = 6
    · subst hk6
      have h2 : l.any (nestedB k) = false := by simpa [nestedB, Rep.kind, Rep.l] using hn
      rw [rightR, if_neg (by decide), if_neg (by decide), if_neg (by decide), if_neg (by decide), if_pos rfl] at hr
      simp only [Bool.and_eq_true, decide_eq_true_eq, List.isEmpty_iff] at hr
      obtain ⟨⟨h3, h4⟩, rfl, rfl⟩ := hr
      have hm := rights_mem h4
      have e : bytesR (.mk 6 [] 0 l) ++ t = 42 :: (Lib.decDigits l.length ++ (13 :: 10 :: (bytesL l ++ t))) := by
        rw [bytesR, if_neg (by decide), if_neg (by decide), if_neg (by decide), if_neg (by decide), if_neg (by decide), if_neg (by decide), itoa_nat]
        simp
      rw [e, repE, if_neg (by decide), if_neg (by decide), if_neg (by decide), if_neg (by decide), if_pos rfl]
      rw [countB_app h3]
      simp only
      rw [itemsB_app l t (fun x hx t' => ih x t' (hm x hx) (by
        have := List.any_eq_false.1 h2 x hx
        simpa using this) (hf.2 x hx))]
    · exact leaf hr hk6 hf
end Go.Proofs.YtpekeilpdbdnnaaDoor
namespace Go.Proofs.YtpekeilpdbdnnaaDoor

/-- What is ok, or wrong, on a beginning is so on all; what is too short has nothing left. -/
structure Stab {α : Type} (f : Bs → Except Flt (α × Bs)) : Prop where
  ok : ∀ p q x r, f p = .ok (x, r) → f (p ++ q) = .ok (x, r ++ q)
  no : ∀ p q m, f p = .error (m, false) → f (p ++ q) = .error (m + q.length, false)
  short : ∀ p m, f p = .error (m, true) → m = 0
def andB {α β : Type} (f : Bs → Except Flt (α × Bs)) (g : α → Bs → Except Flt (β × Bs)) (t : Bs) : Except Flt (β × Bs) := match f t with
  | .error e => .error e
  | .ok (a, q) => g a q
theorem Stab.and {α β : Type} {f : Bs → Except Flt (α × Bs)} {g : α → Bs → Except Flt (β × Bs)} (hf : Stab f) (hg : ∀ a, Stab (g a)) : Stab (andB f g) := by
  refine ⟨fun p q x r h => ?_, fun p q m h => ?_, fun p m h => ?_⟩ <;> unfold andB at h <;> try unfold andB
  · cases hp : f p with
    | error e => rw [hp] at h; cases h
    | ok v => obtain ⟨a, t⟩ := v; rw [hp] at h; rw [hf.ok p q a t hp]; exact (hg a).ok t q x r h
  · cases hp : f p with
    | error e => obtain ⟨m', b⟩ := e; rw [hp] at h; cases h; rw [hf.no p q m hp]
    | ok v => obtain ⟨a, t⟩ := v; rw [hp] at h; rw [hf.ok p q a t hp]; exact (hg a).no t q m h
  · cases hp : f p with
    | error e => obtain ⟨m', b⟩ := e; rw [hp] at h; cases h; exact hf.short p m hp
    | ok v => obtain ⟨a, t⟩ := v; rw [hp] at h; exact (hg a).short t m h
theorem Stab.pure {α : Type} (x : α) : Stab fun t => Except.ok (x, t) := by
  refine ⟨fun p q y r h => ?_, fun p q m h => ?_, fun p m h => ?_⟩
  · cases h; rfl
  · cases h
  · cases h
theorem Stab.congr {α : Type} {f g : Bs → Except Flt (α × Bs)} (h : Stab f) (e : ∀ t, g t = f t) : Stab g := by
  have : g = f := funext e
  rw [this]; exact h
def unitB (f : Bs → Except Flt Bs) (t : Bs) : Except Flt (Unit × Bs) := match f t with | .error e => .error e | .ok r => .ok ((), r)
theorem must_stab (c : UInt8) : Stab (unitB (mustB c)) := by
  refine ⟨fun p q x r h => ?_, fun p q m h => ?_, fun p m h => ?_⟩ <;> unfold unitB at h <;> (try unfold unitB) <;> cases p with
  | nil => first | (simp only [mustB] at h; cases h; done) | (simp only [mustB] at h; cases h; rfl)
  | cons d t =>
    simp only [mustB, List.cons_append] at h ⊢
    by_cases hd : d = c
    · rw [if_pos hd] at h
      first | (cases h; done) | (rw [if_pos hd]; cases h; rfl)
    · rw [if_neg hd] at h
      first | (cases h; done) | (rw [if_neg hd]; cases h; simp only [List.length_append]; congr 2; omega)
theorem Stab.wrong {α : Type} (k : Nat) : Stab (α := α) fun t => Except.error (t.length + k, false) := by
  refine ⟨fun p q y r h => ?_, fun p q m h => ?_, fun p m h => ?_⟩
  · cases h
  · cases h
    simp only [List.length_append]
    congr 2
    omega
  · cases h
theorem Stab.cons {α : Type} {f : Bs → Except Flt (α × Bs)} (h : Stab f) (c : UInt8) : Stab fun r => f (c :: r) :=
  ⟨fun p q x r hp => h.ok (c :: p) q x r hp, fun p q m hp => h.no (c :: p) q m hp, fun p m hp => h.short (c :: p) m hp⟩
def headU {α : Type} (f : UInt8 → Bs → Except Flt (α × Bs)) : Bs → Except Flt (α × Bs)
  | [] => .error (0, true)
  | c :: r => f c r
theorem Stab.head {α : Type} {f : UInt8 → Bs → Except Flt (α × Bs)} (h : ∀ c, Stab (f c)) : Stab (headU f) := by
  refine ⟨fun p q x r hp => ?_, fun p q m hp => ?_, fun p m hp => ?_⟩ <;> cases p with
  | nil => first | (cases hp; done) | (cases hp; rfl)
  | cons c t => first | exact (h c).ok t q x r hp | exact (h c).no t q m hp | exact (h c).short t m hp
theorem Stab.ite {α : Type} {f g : Bs → Except Flt (α × Bs)} (b : Prop) [Decidable b] (hf : Stab f) (hg : Stab g) : Stab fun t => if b then f t else g t := by
  by_cases h : b
  · exact hf.congr fun t => if_pos h
  · exact hg.congr fun t => if_neg h
theorem end_stab : Stab (unitB endB) := by
  refine ((must_stab 13).and fun _ => must_stab 10).congr fun t => ?_
  unfold unitB endB andB
  cases h : mustB 13 t <;> simp [h]
theorem dig_stab (most : Nat) : ∀ (p : Bs) (n : Nat) (first : Bool), (∀ q x r, digB most p n first = .ok (x, r) → digB most (p ++ q) n first = .ok (x, r ++ q)) ∧ (∀ q m, digB most p n first = .error (m, false) → digB most (p ++ q) n first = .error (m + q.length, false)) ∧ ∀ m, digB most p n first = .error (m, true) → m = 0
  | [], n, first => by
    refine ⟨fun q x r h => ?_, fun q m h => ?_, fun m h => ?_⟩
    · rw [digB] at h; cases h
    · rw [digB] at h; cases h
    · rw [digB] at h; cases h; rfl
  | c :: p, n, first => by
    have ih := dig_stab most p (n * 10 + (c.toNat - 48)) false
    by_cases hc : c < 48 ∨ 57 < c ∨ (first = false ∧ n = 0) ∨ most < n * 10 + (c.toNat - 48)
    · cases first with
      | true =>
        refine ⟨fun q x r h => ?_, fun q m h => ?_, fun m h => ?_⟩ <;> rw [digB, if_pos hc, if_pos rfl] at h
        · cases h
        · cases h
          rw [List.cons_append, digB, if_pos hc, if_pos rfl, List.length_append]
          have : p.length + q.length + 1 = p.length + 1 + q.length := by omega
          rw [this]
        · cases h
      | false =>
        refine ⟨fun q x r h => ?_, fun q m h => ?_, fun m h => ?_⟩ <;> rw [digB, if_pos hc, if_neg Bool.false_ne_true] at h
        · cases h
          rw [List.cons_append, digB, if_pos hc, if_neg Bool.false_ne_true] <;> rfl
        · cases h
        · cases h
    · refine ⟨fun q x r h => ?_, fun q m h => ?_, fun m h => ?_⟩ <;> rw [digB, if_neg hc] at h
      · rw [List.cons_append, digB, if_neg hc]; exact ih.1 q x r h
      · rw [List.cons_append, digB, if_neg hc]; exact ih.2.1 q m h
      · exact ih.2.2 m h
theorem numb_stab (most : Nat) : Stab (numbB most) :=
  ⟨fun p q x r h => (dig_stab most p 0 true).1 q x r h, fun p q m h => (dig_stab most p 0 true).2.1 q m h, fun p m h => (dig_stab most p 0 true).2.2 m h⟩
theorem lineO_stab : ∀ k, Stab (lineO k) := by
  have key : ∀ (p : Bs) (k : Nat), (∀ q x r, lineO k p = .ok (x, r) → lineO k (p ++ q) = .ok (x, r ++ q)) ∧ (∀ q m, lineO k p = .error (m, false) → lineO k (p ++ q) = .error (m + q.length, false)) ∧ ∀ m, lineO k p = .error (m, true) → m = 0 := by
    intro p
    induction p with
    | nil =>
      intro k
      refine ⟨fun q x r h => ?_, fun q m h => ?_, fun m h => ?_⟩ <;> rw [lineO] at h
      · cases h
      · cases h
      · cases h; rfl
    | cons c p ihp =>
      intro k
      have ih := ihp (k - 1)
      by_cases h13 : c = 13
      · refine ⟨fun q x r h => ?_, fun q m h => ?_, fun m h => ?_⟩ <;> rw [lineO, if_pos h13] at h
        · cases h; rw [List.cons_append, lineO, if_pos h13] <;> rfl
        · cases h
        · cases h
      · by_cases h10 : c = 10 ∨ k = 0
        · refine ⟨fun q x r h => ?_, fun q m h => ?_, fun m h => ?_⟩ <;> rw [lineO, if_neg h13, if_pos h10] at h
          · cases h
          · cases h
            rw [List.cons_append, lineO, if_neg h13, if_pos h10, List.length_append]
            congr 2
            omega
          · cases h
        · refine ⟨fun q x r h => ?_, fun q m h => ?_, fun m h => ?_⟩ <;> rw [lineO, if_neg h13, if_neg h10] at h <;> cases hp : lineO (k - 1) p with
          | error e =>
            obtain ⟨m', b⟩ := e
            rw [hp] at h
            first
              | (cases h; done)
              | (cases h; rw [List.cons_append, lineO, if_neg h13, if_neg h10, ih.2.1 q _ hp]; done)
              | (cases h; exact ih.2.2 _ hp)
          | ok v =>
            obtain ⟨s, t⟩ := v
            rw [hp] at h
            first
              | (cases h; done)
              | (cases h; rw [List.cons_append, lineO, if_neg h13, if_neg h10, ih.1 q _ _ hp]; done)
  exact fun k => ⟨fun p q x r h => (key p k).1 q x r h, fun p q m h => (key p k).2.1 q m h, fun p m h => (key p k).2.2 m h⟩
theorem lineE_stab : Stab lineE := by
  refine ((lineO_stab 65536).and fun s => end_stab.and fun _ => Stab.pure s).congr fun t => ?_
  unfold lineE andB unitB
  cases h : lineO 65536 t with
  | error e => rfl
  | ok v =>
    obtain ⟨s, q⟩ := v
    simp only
    cases h2 : endB q <;> simp
theorem count_stab (most : Nat) : Stab (countB most) := by
  refine (Stab.head fun c => Stab.cons (f := andB (fun t => if c = 45 then andB (unitB (mustB 45)) (fun _ => andB (unitB (mustB 49)) fun _ q => Except.ok (none, q)) t else andB (numbB most) (fun n q => Except.ok (some n, q)) t) (fun n => andB (unitB endB) fun _ q => Except.ok (n, q)))
    (((((must_stab 45).and fun _ => (must_stab 49).and fun _ => Stab.pure none).ite (c = 45) ((numb_stab most).and fun n => Stab.pure (some n)))).and fun n => end_stab.and fun _ => Stab.pure n) c).congr fun t => ?_
  cases t with
  | nil => rfl
  | cons c r =>
    simp only [countB, headU, nextB, andB, unitB]
    by_cases h : c = 45
    · simp only [if_pos h]
      cases mustB 45 (c :: r) with
      | error => rfl
      | ok q1 =>
        simp only
        cases mustB 49 q1 with
        | error => rfl
        | ok q2 =>
          simp only
          cases endB q2 <;> rfl
    · simp only [if_neg h]
      cases numbB most (c :: r) with
      | error e => rfl
      | ok v =>
        obtain ⟨n, q⟩ := v
        simp only
        cases endB q <;> rfl
def takeE (n : Nat) (q : Bs) : Except Flt (Rep × Bs) := if q.length < n then .error (0, true) else match endB (q.drop n) with | .error e => .error e | .ok r => .ok (.mk 4 (q.take n) 0 [], r)
theorem take_stab (n : Nat) : Stab (takeE n) := by
  refine ⟨fun p q x r h => ?_, fun p q m h => ?_, fun p m h => ?_⟩ <;> unfold takeE at h <;> by_cases hl : p.length < n
  · rw [if_pos hl] at h; cases h
  · rw [if_neg hl] at h
    unfold takeE
    rw [if_neg (by rw [List.length_append]; omega), List.drop_append_of_le_length (by omega), List.take_append_of_le_length (by omega)]
    cases he : endB (p.drop n) with
    | error e => rw [he] at h; cases h
    | ok z =>
      rw [he] at h
      have := end_stab.ok (p.drop n) q () z (by unfold unitB; rw [he])
      unfold unitB at this
      cases h
      cases he2 : endB (p.drop n ++ q) with
      | error e => rw [he2] at this; cases this
      | ok z2 => rw [he2] at this; cases this; rfl
  · rw [if_pos hl] at h; cases h
  · rw [if_neg hl] at h
    unfold takeE
    rw [if_neg (by rw [List.length_append]; omega), List.drop_append_of_le_length (by omega)]
    cases he : endB (p.drop n) with
    | ok z => rw [he] at h; cases h
    | error e =>
      obtain ⟨m', b⟩ := e
      rw [he] at h
      cases h
      have := end_stab.no (p.drop n) q m (by unfold unitB; rw [he])
      unfold unitB at this
      cases he2 : endB (p.drop n ++ q) with
      | error e => rw [he2] at this; cases this; rfl
      | ok z2 => rw [he2] at this; cases this
  · rw [if_pos hl] at h; cases h; rfl
  · rw [if_neg hl] at h
    cases he : endB (p.drop n) with
    | ok z => rw [he] at h; cases h
    | error e =>
      obtain ⟨m', b⟩ := e
      rw [he] at h
      cases h
      exact end_stab.short (p.drop n) m (by unfold unitB; rw [he])
theorem bulk_stab : Stab bulkE := by
  refine ((count_stab 65536).and fun (o : Option Nat) => (show Stab (fun q => match o with | none => Except.ok (Rep.mk 5 [] 0 [], q) | some n => takeE n q) from by cases o with
    | none => exact Stab.pure _
    | some n => exact take_stab n)).congr fun t => ?_
  unfold bulkE andB
  cases countB 65536 t with
  | error e => rfl
  | ok v =>
    obtain ⟨o, q⟩ := v
    cases o <;> rfl
theorem items_stab {f : Bs → Except Flt (Rep × Bs)} (hf : Stab f) : ∀ n, Stab (itemsB f n)
  | 0 => (Stab.pure []).congr fun t => rfl
  | n + 1 => (hf.and fun x => (items_stab hf n).and fun l => Stab.pure (x :: l)).congr fun t => by
    rw [itemsB]
    unfold andB
    cases f t with
    | error e => rfl
    | ok v =>
      obtain ⟨x, q⟩ := v
      simp only
      cases itemsB f n q <;> rfl
theorem integer_stab : Stab integerB := by
  refine (Stab.head fun c => (show Stab (fun r => if c = 45 then headU (fun d r' => if d = 48 then Except.error (r'.length + 1, false) else andB (numbB 9223372036854775808) (fun n q => Except.ok (-(n : Int), q)) (d :: r')) r else andB (numbB 9223372036854775807) (fun n q => Except.ok ((n : Int), q)) (c :: r)) from
    (Stab.head fun d => (Stab.wrong 1).ite (d = 48) (((numb_stab _).and fun n => Stab.pure (-(n : Int))).cons d)).ite (c = 45) (((numb_stab _).and fun n => Stab.pure (n : Int)).cons c))).congr fun t => ?_
  cases t with
  | nil => rfl
  | cons c r =>
    simp only [integerB, headU, nextB]
    by_cases h : c = 45
    · simp only [if_pos h, List.drop_succ_cons, List.drop_zero]
      cases r with
      | nil => rfl
      | cons d r' =>
        simp only [headU]
        by_cases hd : d = 48
        · simp only [if_pos hd, List.length_cons]
        · simp only [if_neg hd, andB]
          cases numbB 9223372036854775808 (d :: r') <;> rfl
    · simp only [if_neg h, andB]
      cases numbB 9223372036854775807 (c :: r) <;> rfl
def repX (arr : Bs → Except Flt (Rep × Bs)) : Bs → Except Flt (Rep × Bs) := headU fun c t =>
  if c = 43 then andB lineE (fun s q => Except.ok (Rep.mk 1 s 0 [], q)) t
  else if c = 45 then andB lineE (fun s q => Except.ok (Rep.mk 2 s 0 [], q)) t
  else if c = 58 then andB integerB (fun n => andB (unitB endB) fun _ q => Except.ok (Rep.mk 3 [] n [], q)) t
  else if c = 36 then bulkE t
  else if c = 42 then arr t
  else .error (t.length + 1, false)
theorem repX_cons (arr : Bs → Except Flt (Rep × Bs)) (c : UInt8) (t : Bs) : repX arr (c :: t) = if c = 43 then andB lineE (fun s q => Except.ok (Rep.mk 1 s 0 [], q)) t
  else if c = 45 then andB lineE (fun s q => Except.ok (Rep.mk 2 s 0 [], q)) t
  else if c = 58 then andB integerB (fun n => andB (unitB endB) fun _ q => Except.ok (Rep.mk 3 [] n [], q)) t
  else if c = 36 then bulkE t
  else if c = 42 then arr t
  else .error (t.length + 1, false) := rfl
theorem repX_stab {arr : Bs → Except Flt (Rep × Bs)} (h : Stab arr) : Stab (repX arr) :=
  Stab.head fun c => (lineE_stab.and fun s => Stab.pure _).ite (c = 43) ((lineE_stab.and fun s => Stab.pure _).ite (c = 45) ((integer_stab.and fun n => end_stab.and fun _ => Stab.pure _).ite (c = 58) (bulk_stab.ite (c = 36) (h.ite (c = 42) (Stab.wrong 1)))))
def arr0 : Bs → Except Flt (Rep × Bs) := andB (unitB (mustB 45)) fun _ => andB (unitB (mustB 49)) fun _ => andB (unitB endB) fun _ q => Except.ok (Rep.mk 7 [] 0 [], q)
def arrS (k : Nat) : Bs → Except Flt (Rep × Bs) := andB (countB 131072) fun (o : Option Nat) q => match o with
  | none => Except.ok (Rep.mk 7 [] 0 [], q)
  | some n => andB (itemsB (repE k) n) (fun l q => Except.ok (Rep.mk 6 [] 0 l, q)) q
theorem repX_eq {k : Nat} {arr : Bs → Except Flt (Rep × Bs)} (h : ∀ t, repE k (42 :: t) = arr t) (t : Bs) : repE k t = repX arr t := by
  cases t with
  | nil => cases k <;> rfl
  | cons c t =>
    rw [repX_cons]
    by_cases h1 : c = 43
    · subst h1
      rw [repE_43, if_pos rfl, andB]
      cases lineE t <;> rfl
    · by_cases h2 : c = 45
      · subst h2
        rw [repE_45, if_neg h1, if_pos rfl, andB]
        cases lineE t <;> rfl
      · by_cases h3 : c = 58
        · subst h3
          rw [repE_58, if_neg h1, if_neg h2, if_pos rfl]
          unfold andB unitB
          cases integerB t with
          | error e => rfl
          | ok v => obtain ⟨n, q⟩ := v; simp only; cases endB q <;> rfl
        · by_cases h4 : c = 36
          · subst h4; rw [repE_36, if_neg h1, if_neg h2, if_neg h3, if_pos rfl]
          · by_cases h5 : c = 42
            · subst h5; rw [h, if_neg h1, if_neg h2, if_neg h3, if_neg h4, if_pos rfl]
            · rw [if_neg h1, if_neg h2, if_neg h3, if_neg h4, if_neg h5]
              cases k <;> (rw [repE]; rw [if_neg h1, if_neg h2, if_neg h3, if_neg h4, if_neg h5])
theorem repE0 (t : Bs) : repE 0 (42 :: t) = arr0 t := by
  show (match mustB 45 t with | .error e => .error e | .ok r => match mustB 49 r with | .error e => .error e | .ok q => match endB q with | .error e => .error e | .ok z => .ok (Rep.mk 7 [] 0 [], z) : Except Flt (Rep × Bs)) = _
  unfold arr0 andB unitB
  cases mustB 45 t with
  | error e => rfl
  | ok r =>
    simp only
    cases mustB 49 r with
    | error e => rfl
    | ok q =>
      simp only
      cases endB q <;> rfl
theorem repES (k : Nat) (t : Bs) : repE (k + 1) (42 :: t) = arrS k t := by
  show (match countB 131072 t with
      | .error e => .error e
      | .ok (none, q) => .ok (.mk 7 [] 0 [], q)
      | .ok (some n, q) => match itemsB (repE k) n q with | .error e => .error e | .ok (l, r) => .ok (.mk 6 [] 0 l, r) : Except Flt (Rep × Bs)) = _
  unfold arrS andB
  cases countB 131072 t with
  | error e => rfl
  | ok v =>
    obtain ⟨o, q⟩ := v
    cases o with
    | none => rfl
    | some n =>
      simp only
      cases itemsB (repE k) n q <;> rfl
theorem repE_stab : ∀ k, Stab (repE k)
  | 0 => (repX_stab (arr := arr0) ((must_stab 45).and fun _ => (must_stab 49).and fun _ => end_stab.and fun _ => Stab.pure _)).congr (repX_eq fun t => by
    show (match mustB 45 t with | .error e => .error e | .ok r => match mustB 49 r with | .error e => .error e | .ok q => match endB q with | .error e => .error e | .ok z => .ok (Rep.mk 7 [] 0 [], z) : Except Flt (Rep × Bs)) = _
    unfold arr0 andB unitB
    cases mustB 45 t with
    | error e => rfl
    | ok r =>
      simp only
      cases mustB 49 r with
      | error e => rfl
      | ok q =>
        simp only
        cases endB q <;> rfl)
  | k + 1 => (repX_stab (arr := arrS k) ((count_stab 131072).and fun (o : Option Nat) => by
    cases o with
    | none => exact Stab.pure _
    | some n => exact (items_stab (repE_stab k) n).and fun l => Stab.pure _)).congr (repX_eq fun t => by
    show (match countB 131072 t with
        | .error e => .error e
        | .ok (none, q) => .ok (.mk 7 [] 0 [], q)
        | .ok (some n, q) => match itemsB (repE k) n q with | .error e => .error e | .ok (l, r) => .ok (.mk 6 [] 0 l, r) : Except Flt (Rep × Bs)) = _
    unfold arrS andB
    cases countB 131072 t with
    | error e => rfl
    | ok v =>
      obtain ⟨o, q⟩ := v
      cases o with
      | none => rfl
      | some n =>
        simp only
        cases itemsB (repE k) n q <;> rfl)
/-- No beginning is a whole one: it is too short, and nothing is left. -/
theorem repE_cut {k : Nat} {b p q : Bs} {r : Rep} (h : repE k b = .ok (r, [])) (hb : b = p ++ q) (hq : q ≠ []) : repE k p = .error (0, true) := by
  subst hb
  cases hp : repE k p with
  | ok v =>
    obtain ⟨x, t⟩ := v
    have := (repE_stab k).ok p q x t hp
    rw [h] at this
    have h2 : [] = t ++ q := (Prod.mk.inj (Except.ok.inj this)).2
    exact absurd (List.append_eq_nil_iff.1 h2.symm).2 hq
  | error e =>
    obtain ⟨m, b⟩ := e
    cases b with
    | true => rw [(repE_stab k).short p m hp]
    | false =>
      have := (repE_stab k).no p q m hp
      rw [h] at this
      cases this
end Go.Proofs.YtpekeilpdbdnnaaDoor
namespace Go.Proofs.YtpekeilpdbdnnaaDoor
open Go.RowKit

theorem str_size {S : ByteArray} {l : Bs} (hS : S = ⟨l.toArray⟩) : S.size = l.length := by subst hS; rfl
theorem str_at {S : ByteArray} {l : Bs} (hS : S = ⟨l.toArray⟩) {i : Nat} {c : UInt8} (h : l[i]? = some c) : ∃ hi : i < S.size, S[i]'hi = c := by
  subst hS
  obtain ⟨hl, e⟩ := List.getElem?_eq_some_iff.1 h
  exact ⟨hl, by rw [← e]; rfl⟩
theorem str_app (x y : Bs) : (⟨x.toArray⟩ : ByteArray) ++ ⟨y.toArray⟩ = ⟨(x ++ y).toArray⟩ := by
  apply ByteArray.ext
  rw [ByteArray.data_append]
  simp
theorem str_inj {a b : Bs} (h : (⟨a.toArray⟩ : ByteArray) = ⟨b.toArray⟩) : a = b := by simpa using h
def strV (l : Bs) : Value := .string ⟨l.toArray⟩
theorem u8_neI {c d : UInt8} (h : c ≠ d) : ¬ ((c.toNat : Int) = (d.toNat : Int)) := fun e => h (UInt8.toNat_inj.1 (by omega))
theorem heap_set_ne {w : World} {o : Option Obj} {p : Addr} {v : Value} {k : Nat} (h : w.heap[k]? = o) (hne : k ≠ p.block) : (w.setCell p v).heap[k]? = o := (heap_setCell_ne p v hne).trans h
theorem Kept.own {w w' : World} (h : Kept NoBlock w w') {g : Nat} (hg : w.heap.size ≤ g) (i : Nat) (v : Value) : Kept NoBlock w (w'.setCell ⟨g, i, none⟩ v) :=
  h.setCell (p := ⟨g, i, none⟩) (fun hlt => absurd hlt (by simp; omega)) v
theorem strInfo : (Tryd.prog.info? 9).map (fun i => (i.zero, i.size, i.bytes)) = some (some (.string ⟨#[]⟩), 1, 16) := by kernel_rfl
theorem byteInfo : (Tryd.prog.info? 5).map (fun i => (i.zero, i.size, i.bytes)) = some (some (.int .u8 0), 1, 1) := by kernel_rfl
theorem conv_of {w : World} {ap : Option Addr} {n cap : Nat} {l : Bs} (h : BytesV w (.slice ap n cap) l) : (convert 22 9 (.slice ap n cap)).run Tryd.prog w = .ok (.string ⟨l.toArray⟩) w :=
  conv_bytes w 22 9 5 Tryd.underlying22 Tryd.underlying5 Tryd.underlying9 cap (RowV.holds h).1
theorem str_part (l : Bs) (i j : Nat) : (⟨l.toArray⟩ : ByteArray).extract i j = ⟨((l.take j).drop i).toArray⟩ := by
  apply ByteArray.ext
  rw [ByteArray.data_extract]
  simp [List.extract_eq_take_drop, List.drop_take]

/-- A row of bytes that the call itself has made, with a mark or none behind it. -/
def OwnT (w : World) (base : Nat) (v : Value) (xs : Bs) : Prop := OwnM w base 5 v xs.length (xs.map bv)
theorem OwnT.bytes {w : World} {base : Nat} {v : Value} {xs : Bs} (h : OwnT w base v xs) : BytesV w v xs := OwnM.row h
theorem OwnT.nil (w : World) (base : Nat) : OwnT w base (.slice none 0 0) [] := OwnM.nil _ _ _
theorem OwnT.kept {w w' : World} {base : Nat} {v : Value} {xs : Bs} (h : OwnT w base v xs) (hk : Kept NoBlock w w') : OwnT w' base v xs := OwnM.kept h hk
theorem OwnT.fresh (w : World) (xs : Bs) (h : xs.length ≤ maxLen) : OwnT (w.alloc (.cells (xs.map bv).toArray 5)) w.heap.size (.slice (some ⟨w.heap.size, 0, none⟩) xs.length xs.length) xs :=
  ⟨by simp, .inr ⟨_, _, _, _, rfl, Nat.le_refl _, heap_alloc_new w _, .inl (Nat.zero_le _), Nat.le_refl _, h, by simp, by simp [List.take_of_length_le]⟩⟩

theorem wpList_appT {w : World} {ops : Array Oper} {rest : List Oper} {o : Oper} {a : Act} {Q : Exit → Act → World → Prop} (hgd : o.guard = none) (sl x : Operand)
    (ho : o.op = .call { callee := .builtin .append, args := #[sl, x], argTypes := #[22, 9] })
    (base : Nat) (v : Value) (xs : Bs) (hs : a.eval sl = v) (hown : OwnT w base v xs) (p : Bs) (S : ByteArray) (hS : S = ⟨p.toArray⟩) (hx : a.eval x = .string S) (hlen : xs.length + p.length ≤ 1000000000) (hbase : base ≤ w.heap.size)
    (h : ∀ v' w', OwnT w' base v' (xs ++ p) → w.grownBy w' v.ownBlock → wpList Tryd.prog ops Q rest (a.put o.dst v') w') : wpList Tryd.prog ops Q (o :: rest) a w := by
  obtain ⟨i0, hi, hz0, hz1, hz2⟩ := info_parts byteInfo
  have hsz : S.size = p.length := by subst hS; rfl
  refine wpList_append_strM (P := Tryd.prog) w hgd sl x 22 9 ho base 5 i0 Tryd.underlying22 Tryd.underlying9 hi hz0 hz1 hz2 v xs.length (xs.map bv) hs hown S hx (by unfold maxLen; omega) (by omega) hbase ?_
  intro v' w' hr hg
  refine h v' w' ?_ hg
  rw [strCells_bv, hS] at hr
  unfold OwnT
  rw [List.length_append, List.map_append]
  exact hr

theorem wpList_appL {w : World} {ops : Array Oper} {rest : List Oper} {o : Oper} {a : Act} {Q : Exit → Act → World → Prop} (hgd : o.guard = none) (sl x : Operand)
    (ho : o.op = .call { callee := .builtin .append, args := #[sl, x], argTypes := #[22, 22] })
    (base : Nat) (v : Value) (xs : Bs) (hs : a.eval sl = v) (hown : OwnT w base v xs) (u : Value) (p : Bs) (hx : a.eval x = u) (hb : BytesV w u p) (hlen : xs.length + p.length ≤ 1000000000) (hbase : base ≤ w.heap.size)
    (h : ∀ v' w', OwnT w' base v' (xs ++ p) → w.grownBy w' v.ownBlock → wpList Tryd.prog ops Q rest (a.put o.dst v') w') : wpList Tryd.prog ops Q (o :: rest) a w := by
  obtain ⟨i0, hi, hz0, hz1, hz2⟩ := info_parts byteInfo
  obtain ⟨ap, cap, rfl, _, _⟩ := hb.parts
  obtain ⟨hH, hl, hc, hn⟩ := RowV.holds hb
  refine wpList_append_M (P := Tryd.prog) w hgd sl x 22 ho base 5 i0 _ 1 Tryd.underlying22 hi hz0 hz1 hz2 rfl v xs.length (xs.map bv) hs hown ap p.length cap (p.map bv) hx hH hn (bv_one p) (by unfold maxLen; omega) (by omega) hbase ?_
  intro v' w' hr hg
  refine h v' w' ?_ hg
  unfold OwnT
  rw [List.length_append, List.map_append]
  exact hr

theorem bytes_fresh (w : World) (xs : Bs) : BytesV (w.alloc (.cells (xs.map bv).toArray 5)) (.slice (some ⟨w.heap.size, 0, none⟩) xs.length xs.length) xs := by
  have := holds_fresh w 5 (xs.map bv)
  rw [List.length_map] at this
  exact RowV.mk this (Nat.le_refl _) (fun h => by cases h)

/-- A row of bytes that the call itself has made, with no mark at all. -/
def OwnZ (w : World) (base : Nat) (v : Value) (xs : Bs) : Prop := w.ownsRow base 5 1 v xs.length (xs.map bv)
theorem OwnZ.t {w : World} {base : Nat} {v : Value} {xs : Bs} (h : OwnZ w base v xs) : OwnT w base v xs := OwnM.of h
theorem OwnZ.bytes {w : World} {base : Nat} {v : Value} {xs : Bs} (h : OwnZ w base v xs) : BytesV w v xs := h.t.bytes
theorem OwnZ.nil (w : World) (base : Nat) : OwnZ w base (.slice none 0 0) [] := World.ownsRow_nil _ _ _ _
theorem OwnZ.keptS {S : Nat → Prop} {w w' : World} {base : Nat} {v : Value} {xs : Bs} (h : OwnZ w base v xs) (hk : Kept S w w') (hS : ∀ k, base ≤ k → k < w.heap.size → ¬ S k) : OwnZ w' base v xs := by
  refine ⟨h.1, ?_⟩
  rcases h.2 with hn | ⟨g, cap, cur, rfl, hb, hg, rest⟩
  · exact .inl hn
  · exact .inr ⟨g, cap, cur, rfl, hb, hk.heap hg (hS g hb (lt_of_heap hg)), rest⟩
theorem OwnZ.kept {w w' : World} {base : Nat} {v : Value} {xs : Bs} (h : OwnZ w base v xs) (hk : Kept NoBlock w w') : OwnZ w' base v xs := h.keptS hk (fun _ _ _ h => h)
theorem OwnZ.lower {w : World} {base base' : Nat} {v : Value} {xs : Bs} (h : OwnZ w base v xs) (hb : base' ≤ base) : OwnZ w base' v xs := ownsRow_lower h hb

theorem wpList_appZ {w : World} {ops : Array Oper} {rest : List Oper} {o : Oper} {a : Act} {Q : Exit → Act → World → Prop} (hgd : o.guard = none) (sl x : Operand)
    (ho : o.op = .call { callee := .builtin .append, args := #[sl, x], argTypes := #[22, 9] })
    (base : Nat) (v : Value) (xs : Bs) (hs : a.eval sl = v) (hown : OwnZ w base v xs) (p : Bs) (S : ByteArray) (hS : S = ⟨p.toArray⟩) (hx : a.eval x = .string S) (hlen : xs.length + p.length ≤ 1000000000) (hbase : base ≤ w.heap.size)
    (h : ∀ v' w', OwnZ w' base v' (xs ++ p) → w.grownBy w' v.ownBlock → wpList Tryd.prog ops Q rest (a.put o.dst v') w') : wpList Tryd.prog ops Q (o :: rest) a w := by
  obtain ⟨i0, hi, hz0, hz1, hz2⟩ := info_parts byteInfo
  have hsz : S.size = p.length := by subst hS; rfl
  obtain ⟨v', w', hr, h2, h3, _⟩ := Lib.run_append_own_string (P := Tryd.prog) w base 22 9 o.type 5 i0 Tryd.underlying22 Tryd.underlying9 hi hz0 hz1 hz2 v xs.length (xs.map bv) hown S (by unfold maxLen; omega) (by omega) hbase
  refine wpList_plain hgd fun K hK => ?_
  unfold Oper.wp execOp
  simp only [ho, resolve, invoke, builtin, Sem.run_bind, Sem.run_pure, Result.andThen_ok, List.map_toArray, List.map_cons, List.map_nil, hs, hx, hr]
  refine hK _ _ (h v' w' ?_ h3)
  rw [strCells_bv, hS] at h2
  unfold OwnZ
  rw [List.length_append, List.map_append]
  exact h2
theorem wpList_appZL {w : World} {ops : Array Oper} {rest : List Oper} {o : Oper} {a : Act} {Q : Exit → Act → World → Prop} (hgd : o.guard = none) (sl x : Operand)
    (ho : o.op = .call { callee := .builtin .append, args := #[sl, x], argTypes := #[22, 22] })
    (base : Nat) (v : Value) (xs : Bs) (hs : a.eval sl = v) (hown : OwnZ w base v xs) (u : Value) (p : Bs) (hx : a.eval x = u) (hb : BytesV w u p) (hlen : xs.length + p.length ≤ 1000000000) (hbase : base ≤ w.heap.size)
    (h : ∀ v' w', OwnZ w' base v' (xs ++ p) → w.grownBy w' v.ownBlock → wpList Tryd.prog ops Q rest (a.put o.dst v') w') : wpList Tryd.prog ops Q (o :: rest) a w := by
  obtain ⟨i0, hi, hz0, hz1, hz2⟩ := info_parts byteInfo
  obtain ⟨ap, cap, rfl, _, _⟩ := hb.parts
  obtain ⟨hH, hl, hc, hn⟩ := RowV.holds hb
  refine wpList_append_holds (P := Tryd.prog) hgd sl x 22 ho base 5 i0 _ 1 Tryd.underlying22 hi hz0 hz1 hz2 rfl v xs.length (xs.map bv) hs hown ap p.length cap (p.map bv) hx hH hn (bv_one p) (by unfold maxLen; omega) (by omega) hbase ?_
  intro v' w' hr hg
  refine h v' w' ?_ hg
  unfold OwnZ
  rw [List.length_append, List.map_append]
  exact hr
/-- A byte of such a row, stored. -/
theorem OwnZ.set {w : World} {base : Nat} {ap : Option Addr} {n cap : Nat} {xs : Bs} (h : OwnZ w base (.slice ap n cap) xs) {k : Nat} (hk : k < n) (c : UInt8) :
    ∃ ad, ap = some ad ∧ base ≤ ad.block ∧ w.frozen? (ad.add k) = false ∧ BytesV (w.setCell (ad.add k) (bv c)) (.slice ap n cap) (xs.set k c) ∧ Kept (fun i => i = ad.block) w (w.setCell (ad.add k) (bv c)) := by
  obtain ⟨hl, hr⟩ := h
  rcases hr with ⟨e, h0⟩ | ⟨g, cap', cur, e, hb, hg, hn, hcm, hcs, htk⟩
  · cases e; omega
  · cases e
    refine ⟨⟨g, 0, none⟩, rfl, hb, ?_, ?_, ?_⟩
    · rw [addr_add, Nat.zero_add]; exact frozenB hg k
    · rw [addr_add, Nat.zero_add]
      have hset := heap_setCell_same hg k (bv c)
      refine RowV.mk (w := w.setCell ⟨g, k, none⟩ (bv c)) (ap := some ⟨g, 0, none⟩) (n := xs.length) (cap := cap) ⟨by simp, fun _ => ⟨_, rfl, fun j v hj => ?_⟩⟩ hn (fun h => by cases h)
      rw [addr_add, Nat.zero_add]
      refine cellB hset ?_
      have hjl : j < xs.length := by have := (List.getElem?_eq_some_iff.1 hj).1; simpa using this
      rw [List.map_set, List.getElem?_set] at hj
      rw [Array.getElem?_setIfInBounds]
      by_cases hkj : k = j
      · subst hkj
        simp only [if_true] at hj ⊢
        rw [if_pos (by rw [hcs]; omega)]
        rw [if_pos (by simpa using hjl)] at hj
        exact hj
      · rw [if_neg hkj] at hj ⊢
        have : (cur.toList.take (xs.length * 1))[j]? = some v := by rw [htk]; exact hj
        rw [List.getElem?_take, if_pos (by omega)] at this
        simpa using this
    · rw [addr_add, Nat.zero_add]
      exact Kept.setCell (S := fun i => i = g) (p := ⟨g, k, none⟩) (Kept.refl _ w) (fun _ => rfl) _
end Go.Proofs.YtpekeilpdbdnnaaDoor
namespace Go.Proofs.YtpekeilpdbdnnaaDoor
open Go.RowKit

section
variable {α : Type} {k : Nat} {f : α → List Value}

theorem flat_len (hf : ∀ x, (f x).length = k) : ∀ xs : List α, (xs.flatMap f).length = k * xs.length
  | [] => rfl
  | x :: xs => by rw [List.flatMap_cons, List.length_append, flat_len hf xs, hf, List.length_cons, Nat.mul_add]; omega
theorem flat_at (hf : ∀ x, (f x).length = k) : ∀ (xs : List α) (i j : Nat) (x : α), xs[i]? = some x → j < k → (xs.flatMap f)[i * k + j]? = (f x)[j]?
  | [], i, j, x, h, _ => by simp at h
  | y :: xs, 0, j, x, h, hj => by
    obtain rfl : y = x := by simpa using h
    rw [List.flatMap_cons, List.getElem?_append_left (by rw [hf]; omega)]
    simp
  | y :: xs, i + 1, j, x, h, hj => by
    rw [List.flatMap_cons, List.getElem?_append_right (by rw [hf, Nat.add_mul]; omega)]
    have e : (i + 1) * k + j - (f y).length = i * k + j := by rw [hf, Nat.add_mul]; omega
    rw [e]
    exact flat_at hf xs i j x (by simpa using h) hj

/-- A slice of structs of k cells each. -/
def RowK (k : Nat) (f : α → List Value) (w : World) (v : Value) (xs : List α) : Prop := ∃ ap cap, v = .slice ap xs.length cap ∧ Holds w ap (k * xs.length) (xs.flatMap f) ∧ xs.length ≤ cap ∧ (ap = none → cap = 0)
theorem RowK.kept {w w' : World} {v : Value} {xs : List α} (h : RowK k f w v xs) (hk : Kept NoBlock w w') : RowK k f w' v xs := by
  obtain ⟨ap, cap, rfl, h1, h2, h3⟩ := h
  exact ⟨ap, cap, rfl, h1.keptS hk (fun _ _ h => h), h2, h3⟩
theorem RowK.nil (w : World) : RowK k f w (.slice none 0 0) [] := ⟨none, 0, rfl, ⟨rfl, fun h => absurd h (by simp)⟩, Nat.le_refl _, fun _ => rfl⟩
theorem RowK.parts {w : World} {v : Value} {xs : List α} (h : RowK k f w v xs) : ∃ ap cap, v = .slice ap xs.length cap ∧ xs.length ≤ cap ∧ (ap = none → cap = 0) := by
  obtain ⟨ap, cap, rfl, _, h2, h3⟩ := h
  exact ⟨ap, cap, rfl, h2, h3⟩

theorem add_off (a : Addr) (i j : Nat) (hj : j ≠ 0) : a.add (i + j) = ⟨(a.add i).block, (a.add i).off + j, none⟩ := by
  rw [← addr_add_add]
  generalize a.add i = b
  simp [Addr.add, hj]

theorem RowK.at (hf : ∀ x, (f x).length = k) {w : World} {ap : Option Addr} {n cap : Nat} {xs : List α} (h : RowK k f w (.slice ap n cap) xs) {i : Nat} {x : α} (hi : xs[i]? = some x) :
    ∃ ad, ap = some ad ∧ (∀ v, 0 < k → (f x)[0]? = some v → w.cell? (ad.add (i * k)) = some v) ∧ ∀ j v, j ≠ 0 → j < k → (f x)[j]? = some v → w.cell? ⟨(ad.add (i * k)).block, (ad.add (i * k)).off + j, none⟩ = some v := by
  obtain ⟨ap', cap', e, h1, h2, h3⟩ := h
  cases e
  have hl := (List.getElem?_eq_some_iff.1 hi).1
  by_cases hk : 0 < k
  · obtain ⟨ad, rfl, hc⟩ := h1.2 (Nat.mul_pos hk (by omega))
    refine ⟨ad, rfl, fun v _ hv => ?_, fun j v hj hjk hv => ?_⟩
    · have := flat_at hf xs i 0 x hi hk
      rw [hv] at this
      exact hc _ _ this
    · rw [← add_off ad (i * k) j hj]
      exact hc _ _ ((flat_at hf xs i j x hi hjk).trans hv)
  · cases ap with
    | none => have := h3 rfl; omega
    | some ad => exact ⟨ad, rfl, fun _ h => absurd h hk, fun j _ _ hjk => by omega⟩
end


section
variable {α : Type} {k : Nat} {f : α → List Value} {T : TypeId}
/-- A row of structs of k cells that the call itself has made. -/
def OwnK (k : Nat) (T : TypeId) (f : α → List Value) (w : World) (base : Nat) (v : Value) (xs : List α) : Prop := w.ownsRow base T k v xs.length (xs.flatMap f)
theorem OwnK.nil (w : World) (base : Nat) : OwnK k T f w base (.slice none 0 0) [] := World.ownsRow_nil _ _ _ _
theorem OwnK.row (hf : ∀ x, (f x).length = k) (hk : 0 < k) {w : World} {base : Nat} {v : Value} {xs : List α} (h : OwnK k T f w base v xs) : RowK k f w v xs := by
  have hl : (xs.flatMap f).length = k * xs.length := flat_len hf xs
  rcases h.2 with ⟨rfl, h0⟩ | ⟨g, cap, cur, rfl, hb, hg, hn, _, _, _⟩
  · refine ⟨none, 0, by rw [h0], ⟨hl, fun hp => ?_⟩, by omega, fun _ => rfl⟩
    rw [h0, Nat.mul_zero] at hp
    omega
  · exact ⟨some ⟨g, 0, none⟩, cap, rfl, ⟨hl, fun _ => ⟨_, rfl, World.ownsRow.cells h rfl⟩⟩, hn, fun h => by cases h⟩
theorem OwnK.form (hf : ∀ x, (f x).length = k) (hk : 0 < k) {w : World} {base : Nat} {v : Value} {xs : List α} (h : OwnK k T f w base v xs) : ∃ ap cap, v = .slice ap xs.length cap := by
  obtain ⟨ap, cap, rfl, _⟩ := OwnK.row hf hk h
  exact ⟨ap, cap, rfl⟩
theorem OwnK.keptS {S : Nat → Prop} {w w' : World} {base : Nat} {v : Value} {xs : List α} (h : OwnK k T f w base v xs) (hk : Kept S w w') (hS : ∀ i, base ≤ i → i < w.heap.size → ¬ S i) : OwnK k T f w' base v xs := by
  refine ⟨h.1, ?_⟩
  rcases h.2 with hn | ⟨g, cap, cur, rfl, hb, hg, rest⟩
  · exact .inl hn
  · exact .inr ⟨g, cap, cur, rfl, hb, hk.heap hg (hS g hb (lt_of_heap hg)), rest⟩
theorem OwnK.kept {w w' : World} {base : Nat} {v : Value} {xs : List α} (h : OwnK k T f w base v xs) (hk : Kept NoBlock w w') : OwnK k T f w' base v xs := h.keptS hk (fun _ _ _ h => h)
theorem OwnK.lt {w : World} {base : Nat} {v : Value} {xs : List α} (h : OwnK k T f w base v xs) : ∀ j, v.ownBlock = some j → base ≤ j ∧ j < w.heap.size := World.ownsRow.lt h

/-- 'append(l, x)'. -/
theorem wpList_appK {w : World} {ops : Array Oper} {rest : List Oper} {o : Oper} {a : Act} {Q : Exit → Act → World → Prop} (hgd : o.guard = none) (s x : Operand) (t : TypeId)
    (ho : o.op = .call { callee := .builtin .append, args := #[s, x], argTypes := #[t, t] }) (hu : Tryd.prog.underlying t = some (.slice T)) (z : Value) (bytes : Nat) (hi : (Tryd.prog.info? T).map (fun i => (i.zero, i.size, i.bytes)) = some (some z, k, bytes)) (hz : z.cells.size = k) (hk : 0 < k) (hby : bytes ≤ 1000)
    (hf : ∀ x, (f x).length = k) (base : Nat) (v : Value) (xs : List α) (hs : a.eval s = v) (hown : OwnK k T f w base v xs) (b : Nat) (y : α) (cs : Array Value) (fz : Nat × Nat) (hx : a.eval x = .slice (some ⟨b, 0, none⟩) 1 1)
    (hcell : w.heap[b]? = some (.cells cs T fz)) (hcs : cs.toList = f y) (h1 : ∀ u ∈ f y, u.oneCell' = true) (hlen : xs.length ≤ 100000000) (hbase : base ≤ w.heap.size)
    (h : ∀ v' w', OwnK k T f w' base v' (xs ++ [y]) → w.grownBy w' v.ownBlock → wpList Tryd.prog ops Q rest (a.put o.dst v') w') : wpList Tryd.prog ops Q (o :: rest) a w := by
  obtain ⟨i0, hi, hz0, hz1, hz2⟩ := info_parts hi
  refine wpList_append_own (P := Tryd.prog) w hgd s x t ho base T i0 z k bytes hu hi hz0 hz1 hz2 hz hk v xs.length (xs.flatMap f) hs hown ⟨b, 0, none⟩ 1 1 (f y) hx (by rw [hf, Nat.one_mul])
    (fun j u hj => by
      rw [addr_add, Nat.zero_add]
      refine cellB hcell ?_
      rw [← hcs] at hj
      simpa using hj)
    h1 (by unfold maxLen; omega) ?_ hbase ?_
  · have := Nat.mul_le_mul (show xs.length + 1 ≤ 100000001 by omega) hby
    omega
  · intro v' w' hr hg _
    refine h v' w' ?_ hg
    unfold OwnK
    rw [List.length_append, List.flatMap_append]
    simpa using hr
end


theorem results_cell {fn : Func} {p : Tmp} {ty : TypeId} (h : fn.results = #[.cell p ty]) (tmps : Array Value) (P : Program) (w : World) :
    (results fn tmps).run P w = ((asAddr (tmps.getD p undef)).run P w).andThen fun a w₁ => (loadVar ty a).run P w₁ := by
  simp only [results, h]
  simp [Sem.run_bind, Result.andThen]
/-- A slice lies in a block of its type. -/
def TypedT (w : World) (v : Value) (T : TypeId) : Prop := ∀ j, vblk v = some j → ∃ cs fz, w.heap[j]? = some (.cells cs T fz)
theorem TypedT.nil (w : World) (T : TypeId) : TypedT w (.slice none 0 0) T := fun j e => by simp [vblk] at e
theorem TypedT.keptS {S : Nat → Prop} {w w' : World} {v : Value} {T : TypeId} (h : TypedT w v T) (hk : Kept S w w') (hS : ∀ j, vblk v = some j → ¬ S j) : TypedT w' v T := fun j e => by
  obtain ⟨cs, fz, hc⟩ := h j e
  exact ⟨cs, fz, hk.heap hc (hS j e)⟩
theorem TypedT.ne {w : World} {v : Value} {T T' : TypeId} (h : TypedT w v T) {b : Nat} {cs : Array Value} {fz : Nat × Nat} (hb : w.heap[b]? = some (.cells cs T' fz)) (hT : ¬ (T = T')) : ∀ j, vblk v = some j → j ≠ b := fun j e e' => by
  subst e'
  obtain ⟨cs', fz', hc⟩ := h j e
  rw [hb] at hc
  cases hc
  exact hT rfl
theorem OwnK.typed {α : Type} {k : Nat} {f : α → List Value} {T : TypeId} {w : World} {base : Nat} {v : Value} {xs : List α} (h : OwnK k T f w base v xs) : TypedT w v T := by
  rcases h.2 with ⟨rfl, _⟩ | ⟨g, cap, cur, rfl, hb, hg, _⟩
  · exact TypedT.nil _ _
  · intro j e
    simp [vblk] at e
    subst e
    exact ⟨_, _, hg⟩
theorem RowK.keptS {α : Type} {k : Nat} {f : α → List Value} {S : Nat → Prop} {w w' : World} {v : Value} {xs : List α} (h : RowK k f w v xs) (hk : Kept S w w') (hS : ∀ j, vblk v = some j → ¬ S j) : RowK k f w' v xs := by
  obtain ⟨ap, cap, rfl, h1, h2, h3⟩ := h
  exact ⟨ap, cap, rfl, h1.keptS hk (fun ad e => by subst e; exact hS _ rfl), h2, h3⟩
/-- Old blocks stand, what the call itself has made may turn. -/
theorem grownS {w w' : World} {row : Option Nat} {B : Nat} (hg : w.grownBy w' row) (hr : ∀ k, row = some k → B ≤ k) : Kept (fun k => B ≤ k) w w' := Kept.grown (Kept.refl _ w) hg (fun k e _ => hr k e)
end Go.Proofs.YtpekeilpdbdnnaaDoor
namespace Go.Proofs.YtpekeilpdbdnnaaDoor
open Go.RowKit

/-- A reply, with the slices in which its rows lie. -/
inductive RepM where
  | mk (k : Int) (s : Bs) (n : Int) (v : Value) (l : List RepM)
def RepM.k : RepM → Int | .mk k _ _ _ _ => k
def RepM.s : RepM → Bs | .mk _ s _ _ _ => s
def RepM.n : RepM → Int | .mk _ _ n _ _ => n
def RepM.v : RepM → Value | .mk _ _ _ v _ => v
def RepM.l : RepM → List RepM | .mk _ _ _ _ l => l
mutual
def RepM.rep : RepM → Rep
  | .mk k s n _ l => .mk k s n (repsM l)
def repsM : List RepM → List Rep
  | [] => []
  | x :: t => x.rep :: repsM t
end
theorem repsM_map : ∀ l : List RepM, repsM l = l.map RepM.rep
  | [] => rfl
  | x :: t => by rw [repsM, repsM_map t]; rfl
theorem RepM.rep_eq (m : RepM) : m.rep = .mk m.k m.s m.n (m.l.map RepM.rep) := by
  obtain ⟨k, s, n, v, l⟩ := m
  rw [RepM.rep, repsM_map]
  rfl
theorem RepM.rep_k (m : RepM) : m.rep.kind = m.k := by rw [m.rep_eq]; rfl
theorem RepM.rep_l (m : RepM) : m.rep.l = m.l.map RepM.rep := by rw [m.rep_eq]; rfl
theorem RepM.ind {C : RepM → Prop} (h : ∀ m, (∀ x ∈ m.l, C x) → C m) : ∀ m, C m
  | .mk k s n v l => h _ (fun x hx => by
      have : SizeOf.sizeOf x < SizeOf.sizeOf (RepM.mk k s n v l) := by
        have h1 := List.sizeOf_lt_of_mem (show x ∈ l from hx)
        simp only [RepM.mk.sizeOf_spec]
        omega
      exact RepM.ind h x)
termination_by m => SizeOf.sizeOf m
decreasing_by assumption

def rCells (m : RepM) : List Value := [.int .i64 m.k, strV m.s, .int .i64 m.n, m.v]
def repA (m : RepM) : Value := .agg #[.int .i64 m.k, strV m.s, .int .i64 m.n, m.v]
theorem rCells_len (m : RepM) : (rCells m).length = 4 := rfl
theorem rCells_one (m : RepM) (h : m.v.oneCell' = true) : ∀ u ∈ rCells m, u.oneCell' = true := by
  intro u hu
  simp only [rCells, strV, List.mem_cons, List.not_mem_nil, or_false] at hu
  rcases hu with rfl | rfl | rfl | rfl
  · rfl
  · rfl
  · rfl
  · exact h

/-- The rows of a reply lie in w, each in a block that P allows. -/
inductive GoodM (w : World) (P : Nat → Prop) : RepM → Prop
  | mk (m : RepM) : RowK 4 rCells w m.v m.l → (m.l ≠ [] → ∀ j, vblk m.v = some j → P j) → (∀ x ∈ m.l, GoodM w P x) → GoodM w P m
theorem GoodM.row {w : World} {P : Nat → Prop} {m : RepM} (h : GoodM w P m) : RowK 4 rCells w m.v m.l := by cases h; assumption
theorem GoodM.at {w : World} {P : Nat → Prop} {m : RepM} (h : GoodM w P m) : m.l ≠ [] → ∀ j, vblk m.v = some j → P j := by cases h; assumption
theorem GoodM.subs {w : World} {P : Nat → Prop} {m : RepM} (h : GoodM w P m) : ∀ x ∈ m.l, GoodM w P x := by cases h; assumption
theorem RowK.keptE {α : Type} {k : Nat} {f : α → List Value} {S : Nat → Prop} {w w' : World} {v : Value} {xs : List α} (h : RowK k f w v xs) (hk : Kept S w w') (hS : xs ≠ [] → ∀ j, vblk v = some j → ¬ S j) : RowK k f w' v xs := by
  obtain ⟨ap, cap, rfl, h1, h2, h3⟩ := h
  by_cases hx : xs = []
  · subst hx
    refine ⟨ap, cap, rfl, ⟨h1.1, fun hp => ?_⟩, h2, h3⟩
    rw [List.length_nil, Nat.mul_zero] at hp
    omega
  · exact ⟨ap, cap, rfl, h1.keptS hk (fun ad e => by subst e; exact hS hx _ rfl), h2, h3⟩
theorem GoodM.kept {w w' : World} {P Q S : Nat → Prop} {m : RepM} (h : GoodM w P m) (hk : Kept S w w') (hS : ∀ j, j < w.heap.size → P j → ¬ S j) (hQ : ∀ j, j < w.heap.size → P j → Q j) : GoodM w' Q m := by
  induction h with
  | mk m hr hp _ ih =>
    have hlt : m.l ≠ [] → ∀ j, vblk m.v = some j → j < w.heap.size := fun hx j hj => by
      obtain ⟨ap, cap, e, h1, h2, h3⟩ := hr
      obtain ⟨ad, rfl, hc⟩ := h1.2 (Nat.mul_pos (by decide) (List.length_pos_iff.2 hx))
      rw [e] at hj
      have hf := hc 0 _ (List.getElem?_eq_getElem (by rw [h1.1]; exact Nat.mul_pos (by decide) (List.length_pos_iff.2 hx)))
      have := cell_lt hf
      have e2 : (ad.add 0).block = ad.block := by unfold Addr.add; split <;> rfl
      rw [e2] at this
      cases hj
      exact this
    exact .mk m (hr.keptE hk (fun hx j hj => hS j (hlt hx j hj) (hp hx j hj))) (fun hx j hj => hQ j (hlt hx j hj) (hp hx j hj)) ih
theorem GoodM.keptN {w w' : World} {P : Nat → Prop} {m : RepM} (h : GoodM w P m) (hk : Kept NoBlock w w') : GoodM w' P m := h.kept hk (fun _ _ _ h => h) (fun _ _ h => h)
theorem GoodM.mono {w : World} {P Q : Nat → Prop} {m : RepM} (h : GoodM w P m) (hQ : ∀ j, j < w.heap.size → P j → Q j) : GoodM w Q m := h.kept (Kept.refl NoBlock w) (fun _ _ _ h => h) hQ
def AnyB : Nat → Prop := fun _ => True
theorem GoodM.any {w : World} {P : Nat → Prop} {m : RepM} (h : GoodM w P m) : GoodM w AnyB m := h.mono (fun _ _ _ => trivial)
/-- A reply without a row. -/
def leafM (k : Int) (s : Bs) (n : Int) : RepM := .mk k s n (.slice none 0 0) []
theorem leafM_good (w : World) (P : Nat → Prop) (k : Int) (s : Bs) (n : Int) : GoodM w P (leafM k s n) := .mk _ (RowK.nil w) (fun h => absurd rfl h) (fun x hx => by cases hx)
theorem leafM_rep (k : Int) (s : Bs) (n : Int) : (leafM k s n).rep = .mk k s n [] := rfl

theorem blk4 {w : World} {g : Nat} {a b c d : Value} {T : TypeId} (hg : w.heap[g]? = some (.cells #[a, b, c, d] T (0, 0))) :
    w.cell? ⟨g, 0, none⟩ = some a ∧ w.cell? ⟨g, 1, none⟩ = some b ∧ w.cell? ⟨g, 2, none⟩ = some c ∧ w.cell? ⟨g, 3, none⟩ = some d :=
  ⟨cellB hg rfl, cellB hg rfl, cellB hg rfl, cellB hg rfl⟩
theorem blk1' {w : World} {g : Nat} {a : Value} {T : TypeId} (h : w.heap[g]? = some (.cells #[a] T (0, 0))) :
    w.cell? ⟨g, 0, none⟩ = some a ∧ w.frozen? ⟨g, 0, none⟩ = false := ⟨cellB h rfl, frozenB h 0⟩
theorem repInfo : (Tryd.prog.info? 26).map (fun i => (i.zero, i.size, i.bytes)) = some (some (.agg #[.int .i64 0, .string ⟨#[]⟩, .int .i64 0, .slice none 0 0]), 4, 56) := by kernel_rfl
/-- The cells of the i-th of a row of replies. -/
theorem rep_at {w : World} {ap : Option Addr} {n cap : Nat} {xs : List RepM} (h : RowK 4 rCells w (.slice ap n cap) xs) {i : Nat} {x : RepM} (hi : xs[i]? = some x) :
    ∃ ad, ap = some ad ∧ w.cell? (ad.add (i * 4)) = some (.int .i64 x.k) ∧ w.cell? ⟨(ad.add (i * 4)).block, (ad.add (i * 4)).off + 1, none⟩ = some (strV x.s) ∧ w.cell? ⟨(ad.add (i * 4)).block, (ad.add (i * 4)).off + 2, none⟩ = some (.int .i64 x.n) ∧ w.cell? ⟨(ad.add (i * 4)).block, (ad.add (i * 4)).off + 3, none⟩ = some x.v := by
  obtain ⟨ad, e, h0, hj⟩ := RowK.at rCells_len h hi
  exact ⟨ad, e, h0 _ (by decide) rfl, hj 1 _ (by decide) (by decide) rfl, hj 2 _ (by decide) (by decide) rfl, hj 3 _ (by decide) (by decide) rfl⟩
end Go.Proofs.YtpekeilpdbdnnaaDoor
namespace Go.Proofs.YtpekeilpdbdnnaaDoor
open Go.RowKit
attribute [local go_sem] fold_part fold_some fold_some' partAt_zero

/-- All numbers fit, and no length is beyond what may be. -/
inductive FitM : RepM → Prop
  | mk (m : RepM) : -9223372036854775808 ≤ m.n → m.n ≤ 9223372036854775807 → m.s.length ≤ 1000000000000000 → m.l.length ≤ 1000000000000000 → (∀ x ∈ m.l, FitM x) → FitM m
theorem FitM.n0 {m : RepM} (h : FitM m) : -9223372036854775808 ≤ m.n := by cases h; assumption
theorem FitM.n1 {m : RepM} (h : FitM m) : m.n ≤ 9223372036854775807 := by cases h; assumption
theorem FitM.s {m : RepM} (h : FitM m) : m.s.length ≤ 1000000000000000 := by cases h; assumption
theorem FitM.l {m : RepM} (h : FitM m) : m.l.length ≤ 1000000000000000 := by cases h; assumption
theorem FitM.subs {m : RepM} (h : FitM m) : ∀ x ∈ m.l, FitM x := by cases h; assumption

theorem any_next {α : Type} {p : α → Bool} {xs : List α} {i : Nat} {a : α} (h : (xs.take i).any p = false) (ha : xs[i]? = some a) (hp : p a = false) : (xs.take (i + 1)).any p = false := by
  rw [List.take_add_one, ha, List.any_append, h]
  simpa using hp
theorem any_yes {α : Type} {p : α → Bool} {xs : List α} {i : Nat} {a : α} (ha : xs[i]? = some a) (hp : p a = true) : xs.any p = true :=
  List.any_eq_true.2 ⟨a, List.mem_of_getElem? ha, hp⟩

set_option maxRecDepth 100000 in
theorem pindN (g : Nat) (pr : RepM → Bool) (v : Value) (xs : List RepM) (w : World) (h : RowK 4 rCells w v xs) (hn : xs.length ≤ 1000000000000000)
    (hc : ∀ x ∈ xs, ∀ w', Kept NoBlock w w' → Calls Tryd.prog 52 #[repA x, .pointer (some ⟨g, 0, none⟩)] w' fun e w2 => e = .returned (.bool (pr x)) ∧ Kept NoBlock w' w2) :
    Calls Tryd.prog 63 #[v, .func (.func 52) #[] #[.pointer (some ⟨g, 0, none⟩)]] w fun e w' => (∃ x : Int, e = .returned (.int .i64 x) ∧ decide (0 ≤ x) = xs.any pr) ∧ Kept NoBlock w w' := by
  obtain ⟨ap, cap, rfl, hcp⟩ := h.parts
  generalize hM : xs.any pr = M
  have HM := Lib.hid hM
  have HROW := Lib.hid h
  obtain ⟨n, hnn⟩ : ∃ n, n = xs.length := ⟨_, rfl⟩
  rw [← hnn] at hn HROW ⊢
  have HN := Lib.hid hnn
  have HC := Lib.hid hc
  clear hM hnn hcp h hc
  go_enter Tryd.func63, Tryd.ntmps63
  go_wp2_with fail
  go_loopw [8] (fun vi wr => ∃ i : Nat, vi = .int .i64 i ∧ i ≤ n ∧ (xs.take i).any pr = false ∧ Kept NoBlock w wr) (fun vi _ => n - (intOf vi).toNat)
  case atStart => exact ⟨0, rfl, Nat.zero_le _, rfl, Kept.refl _ _⟩
  case round =>
    obtain ⟨i, rfl, hi, hr, hk⟩ := hrel
    have HR := Lib.hid hr
    have HK := Lib.hid hk
    clear hr hk
    by_cases hlt : i < n
    · have hil : i < xs.length := by have := HN.out; omega
      obtain ⟨a, ha⟩ : ∃ a, xs[i]? = some a := ⟨xs[i], List.getElem?_eq_getElem hil⟩
      obtain ⟨ad, rfl, a0, a1, a2, a3⟩ := rep_at (RowK.kept HROW.out HK.out) ha
      have HA := Lib.hid ha
      clear ha hil
      go_wp2_with fail
      clear a0 a1 a2 a3
      refine (HC.out a (List.mem_of_getElem? HA.out) _ HK.out).mono ?_
      rintro e w2 ⟨rfl, hk2⟩
      have HK2 := Lib.hid (HK.out.trans hk2)
      clear hk2
      cases hl : pr a with
      | false =>
        have HR3 := Lib.hid (any_next HR.out HA.out hl)
        clear hl
        go_wp2_with fail
        go_roundw
        case rel => exact ⟨i + 1, by go_num, by omega, HR3.out, HK2.out⟩
        case measure => simp [intOf]; omega
      | true =>
        have hfin : M = true := by rw [← HM.out]; exact any_yes HA.out hl
        subst hfin
        clear hl
        go_wp2_with fail
        go_ret
        refine ⟨⟨i, rfl, ?_⟩, HK2.out⟩
        simp
    · have hfin : M = false := by
        rw [← HM.out]
        have := HR.out
        rw [List.take_of_length_le (by have := HN.out; omega)] at this
        exact this
      subst hfin
      go_wp2_with fail
      go_ret
      exact ⟨⟨-1, rfl, rfl⟩, HK.out⟩
set_option maxRecDepth 100000 in
theorem pconN (g : Nat) (pr : RepM → Bool) (v : Value) (xs : List RepM) (w : World) (h : RowK 4 rCells w v xs) (hn : xs.length ≤ 1000000000000000)
    (hc : ∀ x ∈ xs, ∀ w', Kept NoBlock w w' → Calls Tryd.prog 52 #[repA x, .pointer (some ⟨g, 0, none⟩)] w' fun e w2 => e = .returned (.bool (pr x)) ∧ Kept NoBlock w' w2) :
    Calls Tryd.prog 51 #[v, .func (.func 52) #[] #[.pointer (some ⟨g, 0, none⟩)]] w fun e w' => e = .returned (.bool (xs.any pr)) ∧ Kept NoBlock w w' := by
  have hin := pindN g pr v xs w h hn hc
  generalize xs.any pr = M at *
  have HIN := Lib.hid hin
  clear hin h hn hc
  go_enter Tryd.func51, Tryd.ntmps51
  go_wp2_with fail
  refine HIN.out.mono ?_
  rintro e w2 ⟨⟨x, rfl, hx⟩, hk2⟩
  have HK2 := Lib.hid hk2
  clear hk2
  go_wp2_with fail
  go_ret
  exact ⟨rfl, HK2.out⟩
set_option maxRecDepth 100000 in
theorem pindR (pr : RepM → Bool) (v : Value) (xs : List RepM) (w : World) (h : RowK 4 rCells w v xs) (hn : xs.length ≤ 1000000000000000)
    (hc : ∀ x ∈ xs, ∀ w', Kept NoBlock w w' → Calls Tryd.prog 54 #[repA x] w' fun e w2 => e = .returned (.bool (pr x)) ∧ Kept NoBlock w' w2) :
    Calls Tryd.prog 63 #[v, .func (.func 54) #[] #[]] w fun e w' => (∃ x : Int, e = .returned (.int .i64 x) ∧ decide (0 ≤ x) = xs.any pr) ∧ Kept NoBlock w w' := by
  obtain ⟨ap, cap, rfl, hcp⟩ := h.parts
  generalize hM : xs.any pr = M
  have HM := Lib.hid hM
  have HROW := Lib.hid h
  obtain ⟨n, hnn⟩ : ∃ n, n = xs.length := ⟨_, rfl⟩
  rw [← hnn] at hn HROW ⊢
  have HN := Lib.hid hnn
  have HC := Lib.hid hc
  clear hM hnn hcp h hc
  go_enter Tryd.func63, Tryd.ntmps63
  go_wp2_with fail
  go_loopw [8] (fun vi wr => ∃ i : Nat, vi = .int .i64 i ∧ i ≤ n ∧ (xs.take i).any pr = false ∧ Kept NoBlock w wr) (fun vi _ => n - (intOf vi).toNat)
  case atStart => exact ⟨0, rfl, Nat.zero_le _, rfl, Kept.refl _ _⟩
  case round =>
    obtain ⟨i, rfl, hi, hr, hk⟩ := hrel
    have HR := Lib.hid hr
    have HK := Lib.hid hk
    clear hr hk
    by_cases hlt : i < n
    · have hil : i < xs.length := by have := HN.out; omega
      obtain ⟨a, ha⟩ : ∃ a, xs[i]? = some a := ⟨xs[i], List.getElem?_eq_getElem hil⟩
      obtain ⟨ad, rfl, a0, a1, a2, a3⟩ := rep_at (RowK.kept HROW.out HK.out) ha
      have HA := Lib.hid ha
      clear ha hil
      go_wp2_with fail
      clear a0 a1 a2 a3
      refine (HC.out a (List.mem_of_getElem? HA.out) _ HK.out).mono ?_
      rintro e w2 ⟨rfl, hk2⟩
      have HK2 := Lib.hid (HK.out.trans hk2)
      clear hk2
      cases hl : pr a with
      | false =>
        have HR3 := Lib.hid (any_next HR.out HA.out hl)
        clear hl
        go_wp2_with fail
        go_roundw
        case rel => exact ⟨i + 1, by go_num, by omega, HR3.out, HK2.out⟩
        case measure => simp [intOf]; omega
      | true =>
        have hfin : M = true := by rw [← HM.out]; exact any_yes HA.out hl
        subst hfin
        clear hl
        go_wp2_with fail
        go_ret
        refine ⟨⟨i, rfl, ?_⟩, HK2.out⟩
        simp
    · have hfin : M = false := by
        rw [← HM.out]
        have := HR.out
        rw [List.take_of_length_le (by have := HN.out; omega)] at this
        exact this
      subst hfin
      go_wp2_with fail
      go_ret
      exact ⟨⟨-1, rfl, rfl⟩, HK.out⟩
set_option maxRecDepth 100000 in
theorem pconR (pr : RepM → Bool) (v : Value) (xs : List RepM) (w : World) (h : RowK 4 rCells w v xs) (hn : xs.length ≤ 1000000000000000)
    (hc : ∀ x ∈ xs, ∀ w', Kept NoBlock w w' → Calls Tryd.prog 54 #[repA x] w' fun e w2 => e = .returned (.bool (pr x)) ∧ Kept NoBlock w' w2) :
    Calls Tryd.prog 51 #[v, .func (.func 54) #[] #[]] w fun e w' => e = .returned (.bool (xs.any pr)) ∧ Kept NoBlock w w' := by
  have hin := pindR pr v xs w h hn hc
  generalize xs.any pr = M at *
  have HIN := Lib.hid hin
  clear hin h hn hc
  go_enter Tryd.func51, Tryd.ntmps51
  go_wp2_with fail
  refine HIN.out.mono ?_
  rintro e w2 ⟨⟨x, rfl, hx⟩, hk2⟩
  have HK2 := Lib.hid hk2
  clear hk2
  go_wp2_with fail
  go_ret
  exact ⟨rfl, HK2.out⟩
end Go.Proofs.YtpekeilpdbdnnaaDoor
namespace Go.Proofs.YtpekeilpdbdnnaaDoor
open Go.RowKit
attribute [local go_sem] fold_part fold_some fold_some' partAt_zero

def PN (k : Nat) : Prop := ∀ (j : Nat) (m : RepM) (P : Nat → Prop) (w : World), j + k = 8 → GoodM w P m → FitM m →
  Calls Tryd.prog 27 #[repA m, .int .i64 j] w fun e w' => e = .returned (.bool (nestedB k m.rep)) ∧ Kept NoBlock w w'

set_option maxRecDepth 100000 in
theorem pnested1 (k : Nat) (ih : PN k) (j : Nat) (m : RepM) (P : Nat → Prop) (g : Nat) (w : World) (hj : j + 1 + k = 8) (hg : w.heap[g]? = some (.cells #[.int .i64 j] 3 (0, 0))) (h : GoodM w P m) (hf : FitM m) :
    Calls Tryd.prog 52 #[repA m, .pointer (some ⟨g, 0, none⟩)] w fun e w' => e = .returned (.bool (nestedB k m.rep)) ∧ Kept NoBlock w w' := by
  obtain ⟨c0, f0⟩ := blk1' hg
  have hka := Kept.allocd w (.cells #[.int .i64 m.k, strV m.s, .int .i64 m.n, m.v] 26)
  have hci := ih (j + 1) m P _ hj (h.keptN hka) hf
  have c1 := (blk1' (hka.heap hg (fun h => h))).1
  generalize nestedB k m.rep = M at *
  rw [show (((j + 1 : Nat) : Int)) = (j : Int) + 1 by omega] at hci
  have HCI := Lib.hid hci
  have HKA := Lib.hid hka
  have hj8 : j ≤ 7 := by omega
  clear hci hka hg h hf hj ih
  unfold repA at HCI ⊢
  go_enter Tryd.func52, Tryd.ntmps52
  go_wp2_with fail
  refine HCI.out.mono ?_
  rintro e w2 ⟨rfl, hk2⟩
  have HK2 := Lib.hid (HKA.out.trans hk2)
  clear hk2
  go_wp2_with fail
  go_ret
  exact ⟨rfl, HK2.out⟩
set_option maxRecDepth 100000 in
theorem pnested : ∀ k, PN k := by
  intro k
  induction k with
  | zero =>
    intro j m P w hj h hf
    obtain rfl : j = 8 := by omega
    have hM : nestedB 0 m.rep = decide (m.k = 6) := by unfold nestedB; rw [m.rep_k]
    rw [hM]
    by_cases h6 : m.k = 6
    · rw [decide_eq_true h6]
      unfold repA
      rw [h6]
      clear hM h6 hj h hf
      go_enter Tryd.func27, Tryd.ntmps27
      go_wp2_with fail
      go_ret
      exact ⟨rfl, ((Kept.refl NoBlock w).alloc _).alloc _⟩
    · rw [decide_eq_false h6]
      unfold repA
      clear hM hj h hf
      go_enter Tryd.func27, Tryd.ntmps27
      go_wp2_with fail
      go_ret
      exact ⟨rfl, ((Kept.refl NoBlock w).alloc _).alloc _⟩
  | succ k ih =>
    intro j m P w hj h hf
    have hM : nestedB (k + 1) m.rep = (decide (m.k = 6) && m.l.any fun x => nestedB k x.rep) := by
      rw [nestedB, m.rep_k, m.rep_l, List.any_map]
      rfl
    rw [hM]
    by_cases h6 : m.k = 6
    · rw [decide_eq_true h6, Bool.true_and]
      have hka := (Kept.allocd w (.cells #[.int .i64 m.k, strV m.s, .int .i64 m.n, m.v] 26)).alloc (.cells #[.int .i64 j] 3)
      have hga := heap_alloc_new (w.alloc (.cells #[.int .i64 m.k, strV m.s, .int .i64 m.n, m.v] 26)) (.cells #[.int .i64 j] 3)
      rw [World.size_alloc] at hga
      have hc := pconN (w.heap.size + 1) (fun x => nestedB k x.rep) m.v m.l _ (h.row.kept hka) hf.l (fun x hx w' hk => pnested1 k ih j x P (w.heap.size + 1) w' (by omega) (hk.heap hga (fun h => h)) ((h.subs x hx).keptN (hka.trans hk)) (hf.subs x hx))
      generalize (m.l.any fun x => nestedB k x.rep) = M at *
      have HC := Lib.hid hc
      have HKA := Lib.hid hka
      have hj8 : ¬ ((j : Int) = 8) := by omega
      have hj7 : j ≤ 7 := by omega
      clear hM hc hka hga h hf hj ih
      unfold repA
      rw [h6] at HC HKA ⊢
      clear h6
      go_enter Tryd.func27, Tryd.ntmps27
      go_wp2_with fail
      refine HC.out.mono ?_
      rintro e w2 ⟨rfl, hk2⟩
      have HK2 := Lib.hid (HKA.out.trans hk2)
      clear hk2
      go_wp2_with fail
      go_ret
      exact ⟨rfl, HK2.out⟩
    · rw [decide_eq_false h6, Bool.false_and]
      unfold repA
      clear hM hj h hf
      go_enter Tryd.func27, Tryd.ntmps27
      go_wp2_with fail
      go_ret
      exact ⟨rfl, ((Kept.refl NoBlock w).alloc _).alloc _⟩
end Go.Proofs.YtpekeilpdbdnnaaDoor
namespace Go.Proofs.YtpekeilpdbdnnaaDoor
open Go.RowKit
attribute [local go_sem] fold_part fold_some fold_some' partAt_zero

theorem natb (N : Nat) : ((N : Int) == 0) = decide (N = 0) := by rw [Bool.eq_iff_iff]; simp
theorem rightsR_all : ∀ l : List RepM, rightsR (l.map RepM.rep) = l.all fun x => rightR x.rep
  | [] => rfl
  | x :: t => by rw [List.map_cons, rightsR, rightsR_all t, List.all_cons]
theorem right_eq (m : RepM) : rightR m.rep = if m.k = 1 ∨ m.k = 2 then lineB m.s && (decide (m.n = 0) && m.l.isEmpty)
    else if m.k = 3 then m.s.isEmpty && m.l.isEmpty
    else if m.k = 4 then decide (m.s.length ≤ 65536) && (decide (m.n = 0) && m.l.isEmpty)
    else if m.k = 5 ∨ m.k = 7 then m.s.isEmpty && (decide (m.n = 0) && m.l.isEmpty)
    else if m.k = 6 then decide (m.l.length ≤ 131072) && (m.l.all fun x => rightR x.rep) && (m.s.isEmpty && decide (m.n = 0))
    else false := by
  rw [m.rep_eq, rightR, rightsR_all, List.length_map, List.isEmpty_map]
theorem pbyte (S : ByteArray) (s : Bs) (hS : S = ⟨s.toArray⟩) (c : UInt8) (w : World) : Calls Tryd.prog 53 #[.string S, .int .u8 c.toNat] w fun e w' => (∃ x : Int, e = .returned (.int .i64 x) ∧ decide (0 ≤ x) = s.contains c) ∧ w' = w := by
  refine (Tryd.strings_IndexByte S c.toNat w).mono ?_
  rintro e w' ⟨rfl, rfl⟩
  refine ⟨⟨_, rfl, ?_⟩, rfl⟩
  rw [Lib.contains_iff_indexByte]
  subst hS
  congr 3
  simp

set_option maxRecDepth 100000 in
theorem pright_line (m : RepM) (w : World) (hk : m.k = 1 ∨ m.k = 2) (hrow : RowK 4 rCells w m.v m.l) (hf : FitM m) :
    Calls Tryd.prog 28 #[repA m] w fun e w' => e = .returned (.bool (rightR m.rep)) ∧ Kept NoBlock w w' := by
  rw [right_eq, if_pos hk]
  obtain ⟨kk, s, n, v, l⟩ := m
  have hfs := hf.s
  clear hf
  unfold repA
  simp only [RepM.k, RepM.s, RepM.n, RepM.v, RepM.l] at hk hrow hfs ⊢
  obtain ⟨ap, cap, rfl, hcp, _⟩ := hrow.parts
  show Calls _ _ #[.agg #[.int .i64 kk, strV s, .int .i64 n, .slice ap l.length cap]] w fun e w' => e = .returned (.bool ((decide (s.length ≤ 65536) && !(s.contains 13) && !(s.contains 10)) && (decide (n = 0) && l.isEmpty))) ∧ Kept NoBlock w w'
  obtain ⟨S, hS⟩ : ∃ S : ByteArray, S = ⟨s.toArray⟩ := ⟨_, rfl⟩
  have hSz := str_size hS
  have h13 := pbyte S s hS 13
  have h10 := pbyte S s hS 10
  unfold strV
  rw [← hS]
  have HS := Lib.hid hS
  have hlen : l.isEmpty = decide (l.length = 0) := by cases l <;> simp
  have hse : s.isEmpty = decide (S.size = 0) := by rw [hSz]; cases s <;> simp
  (try rw [hlen])
  (try rw [hse])
  obtain ⟨N, hN⟩ : ∃ N, N = l.length := ⟨_, rfl⟩
  (try rw [← hN])
  rw [← hN] at hcp
  (try rw [← hSz])
  rw [← hSz] at hfs
  generalize s.contains 13 = c13 at *
  generalize s.contains 10 = c10 at *
  have H13 := Lib.hid h13
  have H10 := Lib.hid h10
  clear hS hrow hlen hN hse hSz h13 h10
  rcases hk with rfl | rfl
  · by_cases h1 : S.size ≤ 65536
    · go_enter Tryd.func28, Tryd.ntmps28
      go_wp2_with fail
      refine (H13.out _).mono ?_
      rintro e w2 ⟨⟨x, rfl, hx⟩, rfl⟩
      cases hc : c13
      · have hx0 : ¬ (0 ≤ x) := by subst hc; simpa using hx
        clear hx
        go_wp2_with fail
        refine (H10.out _).mono ?_
        rintro e w2 ⟨⟨y, rfl, hx⟩, rfl⟩
        cases hd : c10
        · have hx0 : ¬ (0 ≤ y) := by subst hd; simpa using hx
          clear hx
          go_wp2_with fail
          all_goals (go_ret; refine ⟨?_, ((Kept.refl NoBlock w).alloc _).alloc _⟩; simp [*, natb])
        · have hx0 : 0 ≤ y := by subst hd; simpa using hx
          clear hx
          go_wp2_with fail
          all_goals (go_ret; refine ⟨?_, ((Kept.refl NoBlock w).alloc _).alloc _⟩; simp [*, natb])
      · have hx0 : 0 ≤ x := by subst hc; simpa using hx
        clear hx
        go_wp2_with fail
        all_goals (go_ret; refine ⟨?_, ((Kept.refl NoBlock w).alloc _).alloc _⟩; simp [*, natb])
    · go_enter Tryd.func28, Tryd.ntmps28
      go_wp2_with fail
      all_goals (go_ret; refine ⟨?_, ((Kept.refl NoBlock w).alloc _).alloc _⟩; simp [*, natb])
  · by_cases h1 : S.size ≤ 65536
    · go_enter Tryd.func28, Tryd.ntmps28
      go_wp2_with fail
      refine (H13.out _).mono ?_
      rintro e w2 ⟨⟨x, rfl, hx⟩, rfl⟩
      cases hc : c13
      · have hx0 : ¬ (0 ≤ x) := by subst hc; simpa using hx
        clear hx
        go_wp2_with fail
        refine (H10.out _).mono ?_
        rintro e w2 ⟨⟨y, rfl, hx⟩, rfl⟩
        cases hd : c10
        · have hx0 : ¬ (0 ≤ y) := by subst hd; simpa using hx
          clear hx
          go_wp2_with fail
          all_goals (go_ret; refine ⟨?_, ((Kept.refl NoBlock w).alloc _).alloc _⟩; simp [*, natb])
        · have hx0 : 0 ≤ y := by subst hd; simpa using hx
          clear hx
          go_wp2_with fail
          all_goals (go_ret; refine ⟨?_, ((Kept.refl NoBlock w).alloc _).alloc _⟩; simp [*, natb])
      · have hx0 : 0 ≤ x := by subst hc; simpa using hx
        clear hx
        go_wp2_with fail
        all_goals (go_ret; refine ⟨?_, ((Kept.refl NoBlock w).alloc _).alloc _⟩; simp [*, natb])
    · go_enter Tryd.func28, Tryd.ntmps28
      go_wp2_with fail
      all_goals (go_ret; refine ⟨?_, ((Kept.refl NoBlock w).alloc _).alloc _⟩; simp [*, natb])
set_option maxRecDepth 100000 in
theorem pright_int (m : RepM) (w : World) (hk : m.k = 3) (hrow : RowK 4 rCells w m.v m.l) (hf : FitM m) :
    Calls Tryd.prog 28 #[repA m] w fun e w' => e = .returned (.bool (rightR m.rep)) ∧ Kept NoBlock w w' := by
  rw [right_eq, if_neg (by simp [hk]), if_pos hk]
  obtain ⟨kk, s, n, v, l⟩ := m
  have hfs := hf.s
  clear hf
  unfold repA
  simp only [RepM.k, RepM.s, RepM.n, RepM.v, RepM.l] at hk hrow hfs ⊢
  obtain ⟨ap, cap, rfl, hcp, _⟩ := hrow.parts
  show Calls _ _ #[.agg #[.int .i64 kk, strV s, .int .i64 n, .slice ap l.length cap]] w fun e w' => e = .returned (.bool (s.isEmpty && l.isEmpty)) ∧ Kept NoBlock w w'
  obtain ⟨S, hS⟩ : ∃ S : ByteArray, S = ⟨s.toArray⟩ := ⟨_, rfl⟩
  have hSz := str_size hS
  have h13 := pbyte S s hS 13
  have h10 := pbyte S s hS 10
  unfold strV
  rw [← hS]
  have HS := Lib.hid hS
  have hlen : l.isEmpty = decide (l.length = 0) := by cases l <;> simp
  have hse : s.isEmpty = decide (S.size = 0) := by rw [hSz]; cases s <;> simp
  (try rw [hlen])
  (try rw [hse])
  obtain ⟨N, hN⟩ : ∃ N, N = l.length := ⟨_, rfl⟩
  (try rw [← hN])
  rw [← hN] at hcp
  (try rw [← hSz])
  rw [← hSz] at hfs
  generalize s.contains 13 = c13 at *
  generalize s.contains 10 = c10 at *
  have H13 := Lib.hid h13
  have H10 := Lib.hid h10
  clear hS hrow hlen hN hse hSz h13 h10
  subst hk
  by_cases h0 : S.size = 0
  · have hS0 : S = ⟨#[]⟩ := ByteArray.ext (Array.eq_empty_of_size_eq_zero h0)
    subst hS0
    clear H13 H10 HS
    go_enter Tryd.func28, Tryd.ntmps28
    go_wp2_with fail
    all_goals (go_ret; refine ⟨?_, ((Kept.refl NoBlock w).alloc _).alloc _⟩; simp [*, natb])
  · have hS0 : S.toList.isEmpty = false := by
      rw [Go.ByteArray.toList_eq]
      have : S.data.toList.length = S.size := by rw [Array.length_toList]; rfl
      cases h : S.data.toList with
      | nil => rw [h] at this; simp at this; omega
      | cons a b => rfl
    go_enter Tryd.func28, Tryd.ntmps28
    go_wp2_with fail
    all_goals (go_ret; refine ⟨?_, ((Kept.refl NoBlock w).alloc _).alloc _⟩; simp [*, natb])
set_option maxRecDepth 100000 in
theorem pright_bulk (m : RepM) (w : World) (hk : m.k = 4) (hrow : RowK 4 rCells w m.v m.l) (hf : FitM m) :
    Calls Tryd.prog 28 #[repA m] w fun e w' => e = .returned (.bool (rightR m.rep)) ∧ Kept NoBlock w w' := by
  rw [right_eq, if_neg (by simp [hk]), if_neg (by simp [hk]), if_pos hk]
  obtain ⟨kk, s, n, v, l⟩ := m
  have hfs := hf.s
  clear hf
  unfold repA
  simp only [RepM.k, RepM.s, RepM.n, RepM.v, RepM.l] at hk hrow hfs ⊢
  obtain ⟨ap, cap, rfl, hcp, _⟩ := hrow.parts
  show Calls _ _ #[.agg #[.int .i64 kk, strV s, .int .i64 n, .slice ap l.length cap]] w fun e w' => e = .returned (.bool (decide (s.length ≤ 65536) && (decide (n = 0) && l.isEmpty))) ∧ Kept NoBlock w w'
  obtain ⟨S, hS⟩ : ∃ S : ByteArray, S = ⟨s.toArray⟩ := ⟨_, rfl⟩
  have hSz := str_size hS
  have h13 := pbyte S s hS 13
  have h10 := pbyte S s hS 10
  unfold strV
  rw [← hS]
  have HS := Lib.hid hS
  have hlen : l.isEmpty = decide (l.length = 0) := by cases l <;> simp
  have hse : s.isEmpty = decide (S.size = 0) := by rw [hSz]; cases s <;> simp
  (try rw [hlen])
  (try rw [hse])
  obtain ⟨N, hN⟩ : ∃ N, N = l.length := ⟨_, rfl⟩
  (try rw [← hN])
  rw [← hN] at hcp
  (try rw [← hSz])
  rw [← hSz] at hfs
  generalize s.contains 13 = c13 at *
  generalize s.contains 10 = c10 at *
  have H13 := Lib.hid h13
  have H10 := Lib.hid h10
  clear hS hrow hlen hN hse hSz h13 h10
  subst hk
  by_cases h1 : S.size ≤ 65536
  · go_enter Tryd.func28, Tryd.ntmps28
    go_wp2_with fail
    all_goals (go_ret; refine ⟨?_, ((Kept.refl NoBlock w).alloc _).alloc _⟩; simp [*, natb])
  · go_enter Tryd.func28, Tryd.ntmps28
    go_wp2_with fail
    all_goals (go_ret; refine ⟨?_, ((Kept.refl NoBlock w).alloc _).alloc _⟩; simp [*, natb])
set_option maxRecDepth 100000 in
theorem pright_nil (m : RepM) (w : World) (hk : m.k = 5 ∨ m.k = 7) (hrow : RowK 4 rCells w m.v m.l) (hf : FitM m) :
    Calls Tryd.prog 28 #[repA m] w fun e w' => e = .returned (.bool (rightR m.rep)) ∧ Kept NoBlock w w' := by
  rw [right_eq, if_neg (by omega), if_neg (by omega), if_neg (by omega), if_pos hk]
  obtain ⟨kk, s, n, v, l⟩ := m
  have hfs := hf.s
  clear hf
  unfold repA
  simp only [RepM.k, RepM.s, RepM.n, RepM.v, RepM.l] at hk hrow hfs ⊢
  obtain ⟨ap, cap, rfl, hcp, _⟩ := hrow.parts
  show Calls _ _ #[.agg #[.int .i64 kk, strV s, .int .i64 n, .slice ap l.length cap]] w fun e w' => e = .returned (.bool (s.isEmpty && (decide (n = 0) && l.isEmpty))) ∧ Kept NoBlock w w'
  obtain ⟨S, hS⟩ : ∃ S : ByteArray, S = ⟨s.toArray⟩ := ⟨_, rfl⟩
  have hSz := str_size hS
  have h13 := pbyte S s hS 13
  have h10 := pbyte S s hS 10
  unfold strV
  rw [← hS]
  have HS := Lib.hid hS
  have hlen : l.isEmpty = decide (l.length = 0) := by cases l <;> simp
  have hse : s.isEmpty = decide (S.size = 0) := by rw [hSz]; cases s <;> simp
  (try rw [hlen])
  (try rw [hse])
  obtain ⟨N, hN⟩ : ∃ N, N = l.length := ⟨_, rfl⟩
  (try rw [← hN])
  rw [← hN] at hcp
  (try rw [← hSz])
  rw [← hSz] at hfs
  generalize s.contains 13 = c13 at *
  generalize s.contains 10 = c10 at *
  have H13 := Lib.hid h13
  have H10 := Lib.hid h10
  clear hS hrow hlen hN hse hSz h13 h10
  rcases hk with rfl | rfl
  · by_cases h0 : S.size = 0
    · have hS0 : S = ⟨#[]⟩ := ByteArray.ext (Array.eq_empty_of_size_eq_zero h0)
      subst hS0
      clear H13 H10 HS
      go_enter Tryd.func28, Tryd.ntmps28
      go_wp2_with fail
      all_goals (go_ret; refine ⟨?_, ((Kept.refl NoBlock w).alloc _).alloc _⟩; simp [*, natb])
    · have hS0 : S.toList.isEmpty = false := by
        rw [Go.ByteArray.toList_eq]
        have : S.data.toList.length = S.size := by rw [Array.length_toList]; rfl
        cases h : S.data.toList with
        | nil => rw [h] at this; simp at this; omega
        | cons a b => rfl
      go_enter Tryd.func28, Tryd.ntmps28
      go_wp2_with fail
      all_goals (go_ret; refine ⟨?_, ((Kept.refl NoBlock w).alloc _).alloc _⟩; simp [*, natb])
  · by_cases h0 : S.size = 0
    · have hS0 : S = ⟨#[]⟩ := ByteArray.ext (Array.eq_empty_of_size_eq_zero h0)
      subst hS0
      clear H13 H10 HS
      go_enter Tryd.func28, Tryd.ntmps28
      go_wp2_with fail
      all_goals (go_ret; refine ⟨?_, ((Kept.refl NoBlock w).alloc _).alloc _⟩; simp [*, natb])
    · have hS0 : S.toList.isEmpty = false := by
        rw [Go.ByteArray.toList_eq]
        have : S.data.toList.length = S.size := by rw [Array.length_toList]; rfl
        cases h : S.data.toList with
        | nil => rw [h] at this; simp at this; omega
        | cons a b => rfl
      go_enter Tryd.func28, Tryd.ntmps28
      go_wp2_with fail
      all_goals (go_ret; refine ⟨?_, ((Kept.refl NoBlock w).alloc _).alloc _⟩; simp [*, natb])
set_option maxRecDepth 100000 in
theorem pright_none (m : RepM) (w : World) (hk : ¬ (m.k = 1 ∨ m.k = 2) ∧ ¬ m.k = 3 ∧ ¬ m.k = 4 ∧ ¬ (m.k = 5 ∨ m.k = 7) ∧ ¬ m.k = 6) (hrow : RowK 4 rCells w m.v m.l) (hf : FitM m) :
    Calls Tryd.prog 28 #[repA m] w fun e w' => e = .returned (.bool (rightR m.rep)) ∧ Kept NoBlock w w' := by
  rw [right_eq, if_neg hk.1, if_neg hk.2.1, if_neg hk.2.2.1, if_neg hk.2.2.2.1, if_neg hk.2.2.2.2]
  obtain ⟨kk, s, n, v, l⟩ := m
  have hfs := hf.s
  clear hf
  unfold repA
  simp only [RepM.k, RepM.s, RepM.n, RepM.v, RepM.l] at hk hrow hfs ⊢
  obtain ⟨ap, cap, rfl, hcp, _⟩ := hrow.parts
  show Calls _ _ #[.agg #[.int .i64 kk, strV s, .int .i64 n, .slice ap l.length cap]] w fun e w' => e = .returned (.bool false) ∧ Kept NoBlock w w'
  obtain ⟨S, hS⟩ : ∃ S : ByteArray, S = ⟨s.toArray⟩ := ⟨_, rfl⟩
  have hSz := str_size hS
  have h13 := pbyte S s hS 13
  have h10 := pbyte S s hS 10
  unfold strV
  rw [← hS]
  have HS := Lib.hid hS
  have hlen : l.isEmpty = decide (l.length = 0) := by cases l <;> simp
  have hse : s.isEmpty = decide (S.size = 0) := by rw [hSz]; cases s <;> simp
  (try rw [hlen])
  (try rw [hse])
  obtain ⟨N, hN⟩ : ∃ N, N = l.length := ⟨_, rfl⟩
  (try rw [← hN])
  rw [← hN] at hcp
  (try rw [← hSz])
  rw [← hSz] at hfs
  generalize s.contains 13 = c13 at *
  generalize s.contains 10 = c10 at *
  have H13 := Lib.hid h13
  have H10 := Lib.hid h10
  clear hS hrow hlen hN hse hSz h13 h10
  obtain ⟨g1, g2, g3, g4, g5⟩ := hk
  have g6 : ¬ kk = 1 := by omega
  have g7 : ¬ kk = 2 := by omega
  have g8 : ¬ kk = 5 := by omega
  have g9 : ¬ kk = 7 := by omega
  clear g1 g4
  go_enter Tryd.func28, Tryd.ntmps28
  go_wp2_with fail
  all_goals (go_ret; refine ⟨?_, ((Kept.refl NoBlock w).alloc _).alloc _⟩; simp [*, natb])
def PR (m : RepM) : Prop := ∀ (P : Nat → Prop) (w : World), GoodM w P m → FitM m →
  Calls Tryd.prog 28 #[repA m] w fun e w' => e = .returned (.bool (rightR m.rep)) ∧ Kept NoBlock w w'
set_option maxRecDepth 100000 in
theorem pright1 (m : RepM) (ih : PR m) (P : Nat → Prop) (w : World) (h : GoodM w P m) (hf : FitM m) :
    Calls Tryd.prog 54 #[repA m] w fun e w' => e = .returned (.bool (!rightR m.rep)) ∧ Kept NoBlock w w' := by
  have hka := Kept.allocd w (.cells #[.int .i64 m.k, strV m.s, .int .i64 m.n, m.v] 26)
  have hci := ih P _ (h.keptN hka) hf
  generalize rightR m.rep = M at *
  have HCI := Lib.hid hci
  have HKA := Lib.hid hka
  clear hci hka h hf ih
  unfold repA at HCI ⊢
  go_enter Tryd.func54, Tryd.ntmps54
  go_wp2_with fail
  refine HCI.out.mono ?_
  rintro e w2 ⟨rfl, hk2⟩
  have HK2 := Lib.hid (HKA.out.trans hk2)
  clear hk2
  go_wp2_with fail
  go_ret
  exact ⟨rfl, HK2.out⟩
theorem any_not_all {α : Type} (p : α → Bool) : ∀ l : List α, (l.any fun x => !p x) = !(l.all p)
  | [] => rfl
  | x :: t => by rw [List.any_cons, List.all_cons, any_not_all p t, Bool.not_and]
set_option maxRecDepth 100000 in
theorem pright_arr (m : RepM) (ih : ∀ x ∈ m.l, PR x) (P : Nat → Prop) (w : World) (hk : m.k = 6) (h : GoodM w P m) (hf : FitM m) :
    Calls Tryd.prog 28 #[repA m] w fun e w' => e = .returned (.bool (rightR m.rep)) ∧ Kept NoBlock w w' := by
  rw [right_eq, if_neg (by omega), if_neg (by omega), if_neg (by omega), if_neg (by omega), if_pos hk]
  have hka := ((Kept.allocd w (.cells #[.int .i64 6, strV m.s, .int .i64 m.n, m.v] 26)).alloc (.cells #[.int .i64 6, strV m.s, .int .i64 m.n, .slice none 0 0] 26))
  have hc := pconR (fun x => !(rightR x.rep)) m.v m.l _ (h.row.kept hka) hf.l (fun x hx w' hk => pright1 x (ih x hx) P w' ((h.subs x hx).keptN (hka.trans hk)) (hf.subs x hx))
  have hall := any_not_all (fun x : RepM => rightR x.rep) m.l
  obtain ⟨q, hq⟩ : ∃ q, q = m.l.all fun x => rightR x.rep := ⟨_, rfl⟩
  rw [← hq] at hall ⊢
  have hrow := h.row
  clear h ih hq
  obtain ⟨kk, s, n, v, l⟩ := m
  have hfs := hf.s
  clear hf
  unfold repA
  simp only [RepM.k, RepM.s, RepM.n, RepM.v, RepM.l] at hk hrow hfs hall hka hc ⊢
  rw [hall] at hc
  obtain ⟨ap, cap, rfl, hcp, _⟩ := hrow.parts
  show Calls _ _ #[.agg #[.int .i64 kk, strV s, .int .i64 n, .slice ap l.length cap]] w fun e w' => e = .returned (.bool (decide (l.length ≤ 131072) && q && (s.isEmpty && decide (n = 0)))) ∧ Kept NoBlock w w'
  obtain ⟨S, hS⟩ : ∃ S : ByteArray, S = ⟨s.toArray⟩ := ⟨_, rfl⟩
  have hSz := str_size hS
  unfold strV at hka hc ⊢
  rw [← hS] at hka hc ⊢
  have hse : s.isEmpty = decide (S.size = 0) := by rw [hSz]; cases s <;> simp
  rw [hse]
  obtain ⟨N, hN⟩ : ∃ N, N = l.length := ⟨_, rfl⟩
  rw [← hN] at hka hc hcp ⊢
  have HC := Lib.hid hc
  have HKA := Lib.hid hka
  rw [← hSz] at hfs
  clear hS hrow hN hse hc hka hall hSz
  subst hk
  have hS0 : (S.toList.isEmpty = true ∧ S = ⟨#[]⟩ ∧ S.size = 0) ∨ (S.toList.isEmpty = false ∧ ¬ S.size = 0) := by
    by_cases h0 : S.size = 0
    · obtain rfl : S = ⟨#[]⟩ := ByteArray.ext (Array.eq_empty_of_size_eq_zero h0)
      exact .inl ⟨by rw [Go.ByteArray.toList_eq]; rfl, rfl, rfl⟩
    · refine .inr ⟨?_, h0⟩
      rw [Go.ByteArray.toList_eq]
      have : S.data.toList.length = S.size := by rw [Array.length_toList]; rfl
      cases h : S.data.toList with
      | nil => rw [h] at this; simp at this; omega
      | cons a b => rfl
  have HS0 := Lib.hid hS0
  clear hS0
  by_cases h1 : N ≤ 131072
  · rw [decide_eq_true h1]
    go_enter Tryd.func28, Tryd.ntmps28
    go_wp2_with fail
    refine HC.out.mono ?_
    rintro e w2 ⟨rfl, hk2⟩
    have HK2 := Lib.hid (HKA.out.trans hk2)
    have hga : w2.heap[w.heap.size + 1]? = some (.cells #[.int .i64 6, .string S, .int .i64 n, .slice none 0 0] 26 (0, 0)) := hk2.heap (by
      have := heap_alloc_new (w.alloc (.cells #[.int .i64 6, .string S, .int .i64 n, .slice ap N cap] 26)) (.cells #[.int .i64 6, .string S, .int .i64 n, .slice none 0 0] 26)
      rwa [World.size_alloc] at this) (fun h => h)
    obtain ⟨c0, c1, c2, c3⟩ := blk4 hga
    clear hk2 hga HC
    cases q with
    | false =>
      go_wp2_with fail
      all_goals (go_ret; refine ⟨?_, HK2.out⟩; simp [*, natb])
    | true =>
      rcases HS0.out with ⟨e1, e2, e3⟩ | ⟨e1, e3⟩
      · subst e2
        go_wp2_with fail
        all_goals (go_ret; refine ⟨?_, HK2.out⟩; simp [*, natb])
      · go_wp2_with fail
        all_goals (go_ret; refine ⟨?_, HK2.out⟩; simp [*, natb])
  · rw [decide_eq_false h1]
    go_enter Tryd.func28, Tryd.ntmps28
    go_wp2_with fail
    all_goals (go_ret; refine ⟨?_, ((Kept.refl NoBlock w).alloc _).alloc _⟩; simp [*, natb])
theorem pright : ∀ m, PR m := by
  refine RepM.ind ?_
  intro m ih P w h hf
  by_cases h1 : m.k = 1 ∨ m.k = 2
  · exact pright_line m w h1 h.row hf
  by_cases h2 : m.k = 3
  · exact pright_int m w h2 h.row hf
  by_cases h3 : m.k = 4
  · exact pright_bulk m w h3 h.row hf
  by_cases h4 : m.k = 5 ∨ m.k = 7
  · exact pright_nil m w h4 h.row hf
  by_cases h5 : m.k = 6
  · exact pright_arr m ih P w h5 h hf
  · exact pright_none m w ⟨h1, h2, h3, h4, h5⟩ h.row hf
set_option maxRecDepth 100000 in
theorem pcheck (m : RepM) (P : Nat → Prop) (w : World) (h : GoodM w P m) (hf : FitM m) :
    Calls Tryd.prog 17 #[repA m] w fun e w' => e = .returned (.int .i64 (checkR m.rep)) ∧ Kept NoBlock w w' := by
  have hka := Kept.allocd w (.cells #[.int .i64 m.k, strV m.s, .int .i64 m.n, m.v] 26)
  have hga := heap_alloc_new w (.cells #[.int .i64 m.k, strV m.s, .int .i64 m.n, m.v] 26)
  have hn := pnested 8 0 m P _ rfl (h.keptN hka) hf
  have hr := fun w' hk => pright m P w' (h.keptN (hka.trans hk)) hf
  unfold checkR
  generalize nestedB 8 m.rep = A at *
  generalize rightR m.rep = B at *
  rw [show (((0 : Nat) : Int)) = 0 from rfl] at hn
  have HN := Lib.hid hn
  have HR := Lib.hid hr
  have HKA := Lib.hid hka
  have HGA := Lib.hid hga
  clear hn hr hka hga h hf
  unfold repA at HN HR ⊢
  go_enter Tryd.func17, Tryd.ntmps17
  go_wp2_with fail
  refine HN.out.mono ?_
  rintro e w2 ⟨rfl, hk2⟩
  have HK2 := Lib.hid hk2
  have HK3 := Lib.hid (HKA.out.trans hk2)
  clear hk2
  cases A with
  | true =>
    go_wp2_with fail
    go_ret
    exact ⟨rfl, HK3.out⟩
  | false =>
    obtain ⟨c0, c1, c2, c3⟩ := blk4 (HK2.out.heap HGA.out (fun h => h))
    go_wp2_with fail
    refine (HR.out w2 HK2.out).mono ?_
    rintro e w3 ⟨rfl, hk3⟩
    have HK4 := Lib.hid (HK3.out.trans hk3)
    clear hk3
    cases B with
    | true =>
      go_wp2_with fail
      go_ret
      exact ⟨rfl, HK4.out⟩
    | false =>
      go_wp2_with fail
      go_ret
      exact ⟨rfl, HK4.out⟩
end Go.Proofs.YtpekeilpdbdnnaaDoor
