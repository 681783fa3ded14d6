/- Requests written and read; bytes that come in pieces: no program. -/
import Derived.Test.YtdfkdbdhaaiadaaDoorSp1
namespace Go.Proofs.YtdfkdbdhaaiadaaDoor
open Go.Lib

section
variable (P : Bs → Int × Int) (I : Nat → Bs)

def wBulk (s : Bs) : Bs := 36 :: (I s.length ++ 13 :: 10 :: (s ++ [13, 10]))
def wReq (l : List Bs) : Bs := 42 :: (I l.length ++ 13 :: 10 :: (l.map (wBulk I)).flatten)

structure Numbers : Prop where
  back : ∀ n, n ≤ 65536 → P (I n) = ((n : Int), 0)
  short : ∀ n, n ≤ 65536 → (I n).length ≤ 20
  no13 : ∀ n, n ≤ 65536 → ∀ d ∈ I n, d ≠ 13

variable {P I}
theorem count_w (hN : Numbers P I) {big bad : Bs} {least most : Int} (c : UInt8) (hc : c ≠ 13) (n : Nat) (hn : n ≤ 65536) (t : Bs) (h1 : least ≤ n) (h2 : (n : Int) ≤ most) :
    count P big bad least most (c :: (I n ++ 13 :: 10 :: t)) = .ok ((n : Int), (I n).length + 3) := by
  have hs := hN.short n hn
  have hf : fnd 13 (c :: (I n ++ 13 :: 10 :: t)) = (I n).length + 1 := by
    unfold fnd
    have e : c :: (I n ++ 13 :: 10 :: t) = (c :: I n) ++ 13 :: (10 :: t) := rfl
    rw [e, List.take_append, List.take_of_length_le (show (c :: I n).length ≤ 65536 by simp; omega)]
    obtain ⟨k, hk⟩ : ∃ k, 65536 - (c :: I n).length = k + 1 := ⟨65535 - (c :: I n).length, by simp; omega⟩
    rw [hk, List.take_succ_cons, indexByte_first _ _ _ (by intro d hd; rcases List.mem_cons.1 hd with rfl | hd; exact hc; exact hN.no13 n hn d hd)]
    simp
  unfold count
  rw [hf]
  have e1 : ((I n).length + 1 : Int).toNat = (I n).length + 1 := by omega
  rw [e1, if_neg (by omega), if_neg (by simp)]
  have e2 : ((c :: (I n ++ 13 :: 10 :: t)).take ((I n).length + 1)).drop 1 = I n := by
    simp
  rw [e2, hN.back n hn, if_neg (by simp; omega)]

theorem bulk_w (hN : Numbers P I) (s t : Bs) (hs : s.length ≤ 65536) : bulk P (wBulk I s ++ t) = .ok (s, (wBulk I s).length) := by
  have e : wBulk I s ++ t = 36 :: (I s.length ++ 13 :: 10 :: (s ++ 13 :: 10 :: t)) := by simp [wBulk]
  rw [e]
  unfold bulk
  simp only [List.head?_cons]
  rw [if_neg (by simp), count_w hN 36 (by decide) s.length hs _ (by omega) (by omega)]
  simp only
  rw [if_neg (by simp; omega)]
  have e2 : (36 :: (I s.length ++ 13 :: 10 :: (s ++ 13 :: 10 :: t))).drop ((I s.length).length + 3) = s ++ 13 :: 10 :: t := by
    rw [show (I s.length).length + 3 = ((I s.length).length + 2) + 1 by omega, List.drop_succ_cons, List.drop_append, List.drop_of_length_le (by omega)]
    simp
  rw [e2]
  simp [wBulk]
  omega

theorem bulksA_w (hN : Numbers P I) : ∀ (l acc : List Bs) (m : Nat) (t : Bs), (∀ s ∈ l, s.length ≤ 65536) → bulksA P l.length m acc ((l.map (wBulk I)).flatten ++ t) = .ok (acc ++ l, m + ((l.map (wBulk I)).flatten).length)
  | [], acc, m, t, _ => by simp [bulksA]
  | s :: l, acc, m, t, h => by
    rw [List.length_cons, bulksA, List.map_cons, List.flatten_cons, List.append_assoc, bulk_w hN s _ (h s (by simp))]
    simp only
    rw [List.drop_left, bulksA_w hN l _ _ t (fun x hx => h x (by simp [hx]))]
    simp only [List.append_assoc, List.singleton_append, List.length_append]
    congr 2
    omega

theorem first_w (hN : Numbers P I) (l : List Bs) (t : Bs) (hl : l.length ≤ 1024) (h : ∀ s ∈ l, s.length ≤ 65536) : first P (wReq I l ++ t) = .ok (l, (wReq I l).length) := by
  have e : wReq I l ++ t = 42 :: (I l.length ++ 13 :: 10 :: ((l.map (wBulk I)).flatten ++ t)) := by simp [wReq]
  rw [e]
  unfold first
  simp only [List.head?_cons, if_true]
  unfold bulks
  rw [count_w hN 42 (by decide) l.length (by omega) _ (by omega) (by omega)]
  simp only
  have e2 : (42 :: (I l.length ++ 13 :: 10 :: ((l.map (wBulk I)).flatten ++ t))).drop ((I l.length).length + 3) = (l.map (wBulk I)).flatten ++ t := by
    rw [show (I l.length).length + 3 = ((I l.length).length + 2) + 1 by omega, List.drop_succ_cons, List.drop_append, List.drop_of_length_le (by omega)]
    simp
  rw [e2, Int.toNat_natCast, bulksA_w hN l [] _ t h]
  simp [wReq]
  omega

/-- What is written is read first, whatever stands behind. -/
theorem split_w (hN : Numbers P I) (l : List Bs) (t : Bs) (hl : l.length ≤ 1024) (h0 : l ≠ []) (h : ∀ s ∈ l, s.length ≤ 65536) :
    ∃ r, (split P (wReq I l ++ t)).1 = l :: r ∧ (wReq I l).length ≤ (split P (wReq I l ++ t)).2.1 := by
  have h1 := first_w hN l t hl h
  unfold split
  rw [splitA_ok P h1, (splitA_out P _ _ _ _ (Nat.le_refl _)).1, if_neg h0]
  exact ⟨_, rfl, by simp⟩

/-- A reader: what it keeps, and whether it is done. -/
def feed (k b : Bs) : List (List Bs) × Bs × Bs := ((split P (k ++ b)).1, if (split P (k ++ b)).2.2 = [] then (k ++ b).drop (split P (k ++ b)).2.1 else [], (split P (k ++ b)).2.2)

/-- Behind the bytes X: what came of them in pieces, and what is kept. -/
structure Fed (P : Bs → Int × Int) (X : Bs) (got : List (List Bs)) (k : Bs) : Prop where
  clean : (split P X).2.2 = []
  got : (split P X).1 = got
  kept : X.drop (split P X).2.1 = k

theorem fed_nil : Fed P [] [] [] := by
  have h : split P [] = ([], 0, []) := splitA_wait P rfl
  exact ⟨by rw [h], by rw [h], by rw [h]; rfl⟩

theorem Fed.more {X : Bs} {got : List (List Bs)} {k : Bs} (h : Fed P X got k) (y : Bs) (hf : (split P (k ++ y)).2.2 = []) : Fed P (X ++ y) (got ++ (split P (k ++ y)).1) ((k ++ y).drop (split P (k ++ y)).2.1) := by
  have e := split_app P y h.clean
  rw [h.kept, h.got] at e
  refine ⟨by rw [e]; exact hf, by rw [e], ?_⟩
  rw [e]
  have hle := split_le P X
  rw [← List.drop_drop, List.drop_append_of_le_length hle, h.kept]

theorem Fed.fault {X : Bs} {got : List (List Bs)} {k : Bs} (h : Fed P X got k) (y z : Bs) (hf : (split P (k ++ y)).2.2 ≠ []) : (split P (X ++ y ++ z)).1 = got ++ (split P (k ++ y)).1 ∧ (split P (X ++ y ++ z)).2.2 = (split P (k ++ y)).2.2 := by
  have e := split_app P y h.clean
  rw [h.kept, h.got] at e
  have h2 : (split P (X ++ y)).2.2 ≠ [] := by rw [e]; exact hf
  rw [split_app_fault P z h2, e]
  exact ⟨rfl, rfl⟩

/-- A beginning tells a beginning. -/
theorem split_begins (a b : Bs) : (∃ r, (split P (a ++ b)).1 = (split P a).1 ++ r) ∧ (split P a).2.1 ≤ (split P (a ++ b)).2.1 ∧ ((split P a).2.2 = [] ∨ (split P a).2.2 = (split P (a ++ b)).2.2) := by
  by_cases h : (split P a).2.2 = []
  · rw [split_app P b h]
    exact ⟨⟨_, rfl⟩, by simp, .inl h⟩
  · rw [split_app_fault P b h]
    exact ⟨⟨[], by simp⟩, Nat.le_refl _, .inr rfl⟩
end
end Go.Proofs.YtdfkdbdhaaiadaaDoor
