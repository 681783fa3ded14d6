/- Merged: An image's check, by the program: texts compared, orders; An image's check, by the program: rows that rise, rows of which some element is not right; An image's check, by the program: members of a sorted set; what is short; An image's check, by the program: rows of which some element is not right; An image's check, by the program: a value; An image's check, by the program: an entry; An image's check, by the program: rows of which some element is not right; A snapshot's bytes, by the program; A snapshot's size, by the program. -/
import Derived.Test.YtfhlhpknobkplaaDoorZSw4
import Derived.Laws.Cover1
import Derived.Maps.OwnSet
import Derived.StringKeys
set_option linter.all false
namespace Go.Proofs.YtfhlhpknobkplaaDoor
open Go.RowKit
attribute [local go_sem] fold_part fold_some fold_some' partAt_zero

theorem less_ltB : ∀ x y : Bs, Op.bytesLess x y = ltB x y
  | [], [] => by simp [Op.bytesLess, ltB]
  | _ :: _, [] => by simp [Op.bytesLess, ltB]
  | [], _ :: _ => by simp [Op.bytesLess, ltB]
  | a :: x, b :: y => by
    rw [Op.bytesLess, ltB, less_ltB x y]
    by_cases h : a < b
    · simp [h]
    · by_cases h' : b < a
      · have : ¬ (a = b) := fun e => by subst e; exact h h'
        simp [h, h', this]
      · obtain rfl : a = b := UInt8.le_antisymm (UInt8.not_lt.1 h') (UInt8.not_lt.1 h)
        simp
/-- Three ways. -/
theorem cmp_ways : ∀ x y : Bs, (ltB x y = true ∧ x ≠ y ∧ Lib.compareBytes x y = -1) ∨ (ltB x y = false ∧ x = y ∧ Lib.compareBytes x y = 0) ∨ (ltB x y = false ∧ x ≠ y ∧ Lib.compareBytes x y = 1)
  | [], [] => by simp [ltB, Lib.compareBytes]
  | _ :: _, [] => by simp [ltB, Lib.compareBytes]
  | [], _ :: _ => by simp [ltB, Lib.compareBytes]
  | a :: x, b :: y => by
    rw [ltB, Lib.compareBytes]
    by_cases h : a < b
    · have : ¬ (a = b) := fun e => by subst e; exact absurd h (by simp)
      simp [h, this]
    · by_cases h' : b < a
      · have : ¬ (a = b) := fun e => by subst e; exact h h'
        simp [h, h', this]
      · obtain rfl : a = b := UInt8.le_antisymm (UInt8.not_lt.1 h') (UInt8.not_lt.1 h)
        simpa [h] using cmp_ways x y
theorem cmp_neg (x y : Bs) : decide (0 ≤ Lib.compareBytes x y) = !ltB x y := by
  rcases cmp_ways x y with ⟨h1, _, h2⟩ | ⟨h1, _, h2⟩ | ⟨h1, _, h2⟩ <;> rw [h1, h2] <;> rfl
theorem str_less {S T : ByteArray} {x y : Bs} (hS : S = ⟨x.toArray⟩) (hT : T = ⟨y.toArray⟩) : Op.bytesLess S.toList T.toList = ltB x y := by
  subst hS hT
  rw [Go.ByteArray.toList_eq, Go.ByteArray.toList_eq, less_ltB]
theorem str_beq {S T : ByteArray} {x y : Bs} (hS : S = ⟨x.toArray⟩) (hT : T = ⟨y.toArray⟩) : (S.toList == T.toList) = decide (x = y) := by
  subst hS hT
  rw [Go.ByteArray.toList_eq, Go.ByteArray.toList_eq]
  rw [Bool.eq_iff_iff]; simp

theorem pisNaNs (S : ByteArray) (w : World) : Calls Tryd.prog 63 #[.string S] w fun e w' => e = .returned (.bool false) ∧ w' = w := by
  go_enter Tryd.func63, Tryd.ntmps63
  go_wp2_with fail
  go_ret
  exact ⟨by simp, rfl⟩

theorem pcmpS (x y : Bs) (w : World) : Calls Tryd.prog 56 #[strV x, strV y] w fun e w' => e = .returned (.int .i64 (Lib.compareBytes x y)) ∧ w' = w := by
  obtain ⟨S, hS⟩ : ∃ S : ByteArray, S = ⟨x.toArray⟩ := ⟨_, rfl⟩
  obtain ⟨T, hT⟩ : ∃ S : ByteArray, S = ⟨y.toArray⟩ := ⟨_, rfl⟩
  have hl := str_less hS hT
  have he := str_beq hS hT
  unfold strV
  rw [← hS, ← hT]
  clear hS hT
  generalize hM : Lib.compareBytes x y = M
  rcases cmp_ways x y with ⟨h1, h2, h3⟩ | ⟨h1, h2, h3⟩ | ⟨h1, h2, h3⟩ <;> rw [h1] at hl <;> simp only [h2, decide_true, decide_false] at he <;> rw [hM] at h3 <;> subst h3 <;> clear hM h1 h2
  all_goals
    go_enter Tryd.func56, Tryd.ntmps56
    go_wp2_with (go_at_call 63; (with_reducible refine (pisNaNs _ _).mono ?_); rintro e w' ⟨rfl, rfl⟩)
    go_ret
    exact ⟨rfl, rfl⟩

theorem pbyKey (m m' : EntM) (w : World) : Calls Tryd.prog 46 #[entA m, entA m'] w fun e w' => e = .returned (.int .i64 (Lib.compareBytes m.e.key m'.e.key)) ∧ Kept NoBlock w w' := by
  unfold entA
  have hc := pcmpS m.e.key m'.e.key
  generalize hM : Lib.compareBytes m.e.key m'.e.key = M at *
  have HC := Lib.hid hc
  have HM := Lib.hid hM
  unfold strV at *
  clear hc hM
  go_enter Tryd.func46, Tryd.ntmps46
  go_wp2_with fail
  refine (HC.out _).mono ?_
  rintro e w3 ⟨rfl, rfl⟩
  go_wp2_with fail
  go_ret
  exact ⟨rfl, (Kept.allocd _ _).alloc _⟩

theorem pcmpStr (x y : Bs) (w : World) : Calls Tryd.prog 65 #[strV x, strV y] w fun e w' => e = .returned (.int .i64 (Lib.compareBytes x y)) ∧ Kept NoBlock w w' :=
  (Tryd.strings_Compare ⟨x.toArray⟩ ⟨y.toArray⟩ w).mono fun e w' h => ⟨h.1, by rw [h.2]; exact Kept.refl _ _⟩

def hA (f : Bs × Bs) : Value := .agg #[strV f.1, strV f.2]
def zA (z : Bs × Int) : Value := .agg #[strV z.1, .int .i64 z.2]
theorem pbyField (a b : Bs × Bs) (w : World) : Calls Tryd.prog 71 #[hA a, hA b] w fun e w' => e = .returned (.int .i64 (Lib.compareBytes a.1 b.1)) ∧ Kept NoBlock w w' := by
  unfold hA
  have hc := pcmpS a.1 b.1
  generalize hM : Lib.compareBytes a.1 b.1 = M at *
  have HC := Lib.hid hc
  have HM := Lib.hid hM
  unfold strV at *
  clear hc hM
  go_enter Tryd.func71, Tryd.ntmps71
  go_wp2_with fail
  refine (HC.out _).mono ?_
  rintro e w3 ⟨rfl, rfl⟩
  go_wp2_with fail
  go_ret
  exact ⟨rfl, (Kept.allocd _ _).alloc _⟩

def cmpZ (a b : Bs × Int) : Int := if a.2 < b.2 then -1 else if b.2 < a.2 then 1 else Lib.compareBytes a.1 b.1
theorem por (g : Nat) (a b : Int) (w : World) (hg : w.heap[g]? = some (.cells #[.int .i64 a, .int .i64 b] 3 (0, 0))) :
    Calls Tryd.prog 86 #[.slice (some ⟨g, 0, none⟩) 2 2] w fun e w' => e = .returned (.int .i64 (if a = 0 then b else a)) ∧ w' = w := by
  have c0 := cellB hg (i := 0) rfl
  have c1 := cellB hg (i := 1) rfl
  clear hg
  obtain ⟨M, hM⟩ : ∃ M, M = if a = 0 then b else a := ⟨_, rfl⟩
  rw [← hM]
  have HM := Lib.hid hM
  clear hM
  simp only [List.getElem_toArray, List.getElem_cons_zero, List.getElem_cons_succ] at c0 c1
  go_enter Tryd.func86, Tryd.ntmps86
  go_wp2_with fail
  go_loopw [8] (fun vi wr => ∃ i : Nat, vi = .int .i64 i ∧ i ≤ 2 ∧ (1 ≤ i → a = 0) ∧ (2 ≤ i → b = 0) ∧ wr = w) (fun vi _ => 2 - (intOf vi).toNat)
  case atStart => exact ⟨0, rfl, by omega, fun h => absurd h (by omega), fun h => absurd h (by omega), rfl⟩
  case round =>
    obtain ⟨i, rfl, hi, h1, h2, rfl⟩ := hrel
    have H1 := Lib.hid h1
    have H2 := Lib.hid h2
    clear h1 h2
    rcases (by omega : i = 0 ∨ i = 1 ∨ i = 2) with rfl | rfl | rfl
    · by_cases ha : a = 0
      · have HA := Lib.hid ha
        have hm : M = b := by rw [HM.out, if_pos ha]
        subst hm
        have hz : ¬ (a ≠ 0) := fun h => h HA.out
        go_wp2_with fail
        go_roundw
        case rel => exact ⟨1, by go_num, by omega, fun _ => HA.out, fun h => absurd h (by omega), trivial⟩
        case measure => simp [intOf]
      · have hm : M = a := by rw [HM.out, if_neg ha]
        subst hm
        go_wp2_with fail
        go_ret
        exact ⟨rfl, rfl⟩
    · have ha := H1.out (by omega)
      have hm : M = b := by rw [HM.out, if_pos ha]
      subst hm
      by_cases hb : M = 0
      · have HB := Lib.hid hb
        go_wp2_with fail
        go_roundw
        case rel => exact ⟨2, by go_num, by omega, fun _ => H1.out (by omega), fun _ => HB.out, trivial⟩
        case measure => simp [intOf]
      · go_wp2_with fail
        go_ret
        exact ⟨rfl, rfl⟩
    · have ha := H1.out (by omega)
      have hb := H2.out (by omega)
      have hm : M = 0 := by rw [HM.out, if_pos ha, hb]
      subst hm
      clear ha hb
      go_wp2_with fail
      go_ret
      exact ⟨rfl, rfl⟩

set_option maxRecDepth 100000 in
theorem porder (a b : Bs × Int) (w : World) : Calls Tryd.prog 81 #[zA a, zA b] w fun e w' => e = .returned (.int .i64 (cmpZ a b)) ∧ Kept NoBlock w w' := by
  unfold zA
  generalize hM : cmpZ a b = M
  have hc := pcmpS a.1 b.1
  have hi := Tryd.cmp_Compare_int a.2 b.2
  have hM2 : (if Lib.compareInt a.2 b.2 = 0 then Lib.compareBytes a.1 b.1 else Lib.compareInt a.2 b.2) = M := by
    rw [← hM]
    unfold cmpZ Lib.compareInt
    by_cases h1 : a.2 < b.2
    · simp [h1]
    · by_cases h2 : b.2 < a.2
      · simp [h1, h2]
      · simp [h1, h2]
  generalize Lib.compareBytes a.1 b.1 = M1 at *
  generalize Lib.compareInt a.2 b.2 = M2 at *
  have HC := Lib.hid hc
  have HI := Lib.hid hi
  have HM := Lib.hid hM2
  unfold strV at *
  clear hc hM hi hM2
  go_enter Tryd.func81, Tryd.ntmps81
  go_wp2_with fail
  refine wp_plan 0 [1, 2, 3, 4, 5, 6, 7, 8, 9] 10 [([], 11)] [12] (by kernel_rfl) (by kernel_rfl) ?_
  simp only [wpPlan, pick, List.filterMap_cons, List.filterMap_nil, List.getElem?_cons_succ, List.getElem?_cons_zero]
  repeat (quiet_step ((first | (go_at_call 56; exact Calls.quiet_of_same (HC.out _)) | (go_at_call 87; exact Calls.quiet_of_same (HI.out _)))))
  refine wpQuiet_nil ?_
  rintro _ ⟨q1, rfl⟩
  have HK2 := Lib.hid (((Kept.allocd w (.cells #[.string ⟨a.1.toArray⟩, .int .i64 a.2] 99)).alloc (.cells #[.string ⟨b.1.toArray⟩, .int .i64 b.2] 99)).drewN q1)
  generalize ((w.alloc (.cells #[.string ⟨a.1.toArray⟩, .int .i64 a.2] 99)).alloc (.cells #[.string ⟨b.1.toArray⟩, .int .i64 b.2] 99)).drewN q1 = W2 at *
  go_wp2_with fail
  refine Halt.mk ?_
  have hg2 := heap_alloc_new W2 (.cells #[.int .i64 M2, .int .i64 M1] 3)
  have HPO := Lib.hid (por W2.heap.size M2 M1 _ hg2)
  clear hg2
  go_wp2_with fail
  refine HPO.out.mono ?_
  rintro e w3 ⟨rfl, rfl⟩
  rw [HM.out]
  go_wp2_with fail
  refine Halt.mk ?_
  repeat (quiet_step (fail))
  refine wpQuiet_nil ?_
  rintro _ ⟨q2, rfl⟩
  go_wp2_with fail
  go_ret
  exact ⟨rfl, (HK2.out.alloc _).drewN _⟩
end Go.Proofs.YtfhlhpknobkplaaDoor
namespace Go.Proofs.YtfhlhpknobkplaaDoor
open Go.RowKit
attribute [local go_sem] fold_part fold_some fold_some' partAt_zero

theorem rises_iff {α : Type} (lt : α → α → Bool) : ∀ l : List α, risesBy lt l = true ↔ ∀ (j : Nat) (a b : α), l[j]? = some a → l[j + 1]? = some b → lt a b = true
  | [] => by simp [risesBy]
  | [x] => by simp [risesBy]
  | x :: y :: r => by
    rw [risesBy, Bool.and_eq_true, rises_iff lt (y :: r)]
    constructor
    · rintro ⟨h1, h2⟩ j a b ha hb
      cases j with
      | zero => simp at ha hb; subst ha hb; exact h1
      | succ j => exact h2 j a b (by simpa using ha) (by simpa using hb)
    · intro h
      exact ⟨h 0 x y rfl rfl, fun j a b ha hb => h (j + 1) a b (by simpa using ha) (by simpa using hb)⟩
theorem row_map {l : List Bs} {i : Nat} {x : Bs} (h : l[i]? = some x) : (l.map strV)[i]? = some (strV x) := by rw [List.getElem?_map, h]; rfl
def ltE (a b : EntM) : Bool := ltB a.e.key b.e.key
def ltF (a b : Bs × Bs) : Bool := ltB a.1 b.1
theorem cmp_E (a b : EntM) : decide (0 ≤ Lib.compareBytes a.e.key b.e.key) = !ltE a b := cmp_neg _ _
theorem cmp_S (a b : Bs) : decide (0 ≤ Lib.compareBytes a b) = !ltB a b := cmp_neg _ _
theorem cmp_F (a b : Bs × Bs) : decide (0 ≤ Lib.compareBytes a.1 b.1) = !ltF a b := cmp_neg _ _
theorem cmp_Z (a b : Bs × Int) : decide (0 ≤ cmpZ a b) = !ltZ a b := by
  unfold cmpZ ltZ
  split
  · rfl
  · split
    · rfl
    · exact cmp_neg _ _
def RisesTo {α : Type} (lt : α → α → Bool) (l : List α) (i : Nat) : Prop := ∀ (j : Nat) (a b : α), j + 1 < i → l[j]? = some a → l[j + 1]? = some b → lt a b = true
theorem RisesTo.one {α : Type} (lt : α → α → Bool) (l : List α) : RisesTo lt l 1 := fun j a b h => by omega
theorem RisesTo.next {α : Type} {lt : α → α → Bool} {l : List α} {i j : Nat} {a b : α} (h : RisesTo lt l i) (hi : i = j + 1) (ha : l[j]? = some a) (hb : l[i]? = some b) (hl : lt a b = true) : RisesTo lt l (i + 1) := fun k a' b' hk ha' hb' => by
  by_cases hkj : k = j
  · subst hkj hi
    rw [ha] at ha'; rw [hb] at hb'
    cases ha'; cases hb'
    exact hl
  · exact h k a' b' (by omega) ha' hb'
theorem RisesTo.all {α : Type} {lt : α → α → Bool} {l : List α} {i : Nat} (h : RisesTo lt l i) (hi : l.length ≤ i) : risesBy lt l = true := (rises_iff lt l).2 fun j a b ha hb => h j a b (by have := (List.getElem?_eq_some_iff.1 hb).1; omega) ha hb
theorem not_rises {α : Type} {lt : α → α → Bool} {l : List α} {j : Nat} {a b : α} (ha : l[j]? = some a) (hb : l[j + 1]? = some b) (hl : lt a b = false) : risesBy lt l = false := by
  rw [← Bool.not_eq_true, rises_iff]
  intro h
  rw [h j a b ha hb] at hl
  cases hl
theorem all_not {α : Type} {ok : α → Bool} {l : List α} {i : Nat} {a : α} (ha : l[i]? = some a) (hl : ok a = false) : l.all ok = false := by
  rw [← Bool.not_eq_true, List.all_eq_true]
  intro h
  rw [h a (List.mem_of_getElem? ha)] at hl
  cases hl
theorem all_next {α : Type} {ok : α → Bool} {l : List α} {i : Nat} {a : α} (h : (l.take i).all ok = true) (ha : l[i]? = some a) (hl : ok a = true) : (l.take (i + 1)).all ok = true := by
  obtain ⟨hi, e⟩ := List.getElem?_eq_some_iff.1 ha
  rw [List.take_succ_eq_append_getElem hi, List.all_append, h, e]
  simp [hl]
theorem agg_two {w : World} {ap : Option Addr} {n cap : Nat} {α : Type} {f : α → List Value} {xs : List α} (hf : ∀ x, (f x).length = 2) (h : RowK 2 f w (.slice ap n cap) xs) {i : Nat} {x : α} (hi : xs[i]? = some x) {a b : Value} (hx : f x = [a, b]) :
    ∃ ad, ap = some ad ∧ w.cell? (ad.add (i * 2)) = some a ∧ w.cell? ⟨(ad.add (i * 2)).block, (ad.add (i * 2)).off + 1, none⟩ = some b := by
  obtain ⟨ad, rfl, h0, h1⟩ := RowK.at hf h hi
  exact ⟨ad, rfl, h0 _ (by decide) (by rw [hx]; rfl), h1 1 _ (by decide) (by decide) (by rw [hx]; rfl)⟩

set_option maxRecDepth 100000 in
theorem prisE (v : Value) (xs : List EntM) (w : World) (h : RowK 7 eCells w v xs) (hn : xs.length ≤ 70000000) :
    Calls Tryd.prog 45 #[v, .func (.func 46) #[] #[]] w fun e w' => e = .returned (.bool (risesBy ltE xs)) ∧ Kept NoBlock w w' := by
  have hrow := h
  obtain ⟨ap, cap, rfl, hcp⟩ := hrow.parts
  generalize hM : risesBy ltE xs = M
  have HM := Lib.hid hM
  have HROW := Lib.hid hrow
  obtain ⟨n, hnn⟩ : ∃ n, n = xs.length := ⟨_, rfl⟩
  rw [← hnn] at hn HROW ⊢
  have HN := Lib.hid hnn
  clear hM hrow hnn hcp h
  go_enter Tryd.func45, Tryd.ntmps45
  go_wp2_with fail
  go_loopw [5] (fun vi wr => ∃ i : Nat, vi = .int .i64 i ∧ 1 ≤ i ∧ i ≤ n + 1 ∧ RisesTo ltE xs i ∧ Kept NoBlock w wr) (fun vi _ => n + 1 - (intOf vi).toNat)
  case atStart => exact ⟨1, rfl, Nat.le_refl _, by omega, RisesTo.one _ _, Kept.refl _ _⟩
  case round =>
    obtain ⟨i, rfl, hi1, hi, hr, hk⟩ := hrel
    have HR := Lib.hid hr
    have HK := Lib.hid hk
    clear hr hk
    by_cases hlt : i < n
    · obtain ⟨j, hj⟩ : ∃ j, i = j + 1 := ⟨i - 1, by omega⟩
      have hjl : j < xs.length := by have := HN.out; omega
      have hil : i < xs.length := by have := HN.out; omega
      obtain ⟨a, ha⟩ : ∃ a, xs[j]? = some a := ⟨xs[j], List.getElem?_eq_getElem hjl⟩
      obtain ⟨b, hb⟩ : ∃ b, xs[i]? = some b := ⟨xs[i], List.getElem?_eq_getElem hil⟩
      obtain ⟨ad, rfl, a0, a1, a2, a3, a4, a5, a6⟩ := RowK.at7 (RowK.kept HROW.out HK.out) ha
      obtain ⟨ad', he, b0, b1, b2, b3, b4, b5, b6⟩ := RowK.at7 (RowK.kept HROW.out HK.out) hb
      obtain rfl := Option.some.inj he
      have hwr : IntKind.i64.wrap ((i : Int) - 1) = (j : Int) := by rw [IntWalk.i64_in _ (by omega)]; omega
      have hjn : j < n := by omega
      have HJ := Lib.hid hj
      have HA := Lib.hid ha
      have HB := Lib.hid hb
      clear ha hb hj hjl hil
      go_wp2_with fail
      refine wp_plan 0 [1, 2, 3, 4, 5, 6, 7, 8, 9] 10 [] [11] (by kernel_rfl) (by kernel_rfl) ?_
      simp only [wpPlan, pick, List.filterMap_cons, List.filterMap_nil, List.getElem?_cons_succ, List.getElem?_cons_zero]
      repeat (quiet_step (fail))
      refine wpQuiet_nil ?_
      rintro _ ⟨q1, rfl⟩
      clear a0 b0 a1 b1 a2 b2 a3 b3 a4 b4 a5 b5 a6 b6 hwr
      go_wp2_with fail
      refine (pbyKey a b _).mono ?_
      rintro e w2 ⟨rfl, hk2⟩
      have HK2 := Lib.hid ((HK.out.drewN q1).trans hk2)
      have hneg := cmp_E a b
      generalize Lib.compareBytes a.e.key b.e.key = c at *
      have HNEG := Lib.hid hneg
      clear hk2 hneg
      go_wp2_with fail
      refine Halt.mk ?_
      repeat (quiet_step (fail))
      refine wpQuiet_nil ?_
      rintro _ ⟨q2, rfl⟩
      have hneg := HNEG.out
      have HK3 := Lib.hid (HK2.out.drewN q2)
      generalize w2.drewN q2 = w3 at *
      cases hl : ltE a b with
      | true =>
        rw [hl] at hneg
        have hr3 := HR.out.next HJ.out HA.out HB.out hl
        have HR3 := Lib.hid hr3
        have hneg2 : c < 0 := by simpa using hneg
        clear hl hneg hr3
        go_wp2_with fail
        go_roundw
        case rel => exact ⟨i + 1, by go_num, by omega, by omega, HR3.out, HK3.out⟩
        case measure => simp [intOf]; omega
      | false =>
        rw [hl] at hneg
        have hfin : M = false := by rw [← HM.out]; exact not_rises HA.out (by have := HB.out; rw [HJ.out] at this; exact this) hl
        have hneg2 : 0 ≤ c := by simpa using hneg
        subst hfin
        clear hl hneg
        go_wp2_with fail
        go_ret
        exact ⟨rfl, HK3.out⟩
    · have hfin : M = true := by rw [← HM.out]; exact HR.out.all (by have := HN.out; omega)
      subst hfin
      go_wp2_with fail
      go_ret
      exact ⟨rfl, HK.out⟩

set_option maxRecDepth 100000 in
theorem prisS (v : Value) (xs : List Bs) (w : World) (h : RowV w v (xs.map strV)) (hn : xs.length ≤ 70000000) :
    Calls Tryd.prog 64 #[v, .func (.func 65) #[] #[]] w fun e w' => e = .returned (.bool (risesBy ltB xs)) ∧ Kept NoBlock w w' := by
  have hrow := h
  obtain ⟨ap, cap, rfl, hcp⟩ := hrow.parts
  generalize hM : risesBy ltB xs = M
  have HM := Lib.hid hM
  have HROW := Lib.hid hrow
  rw [List.length_map] at HROW ⊢
  obtain ⟨n, hnn⟩ : ∃ n, n = xs.length := ⟨_, rfl⟩
  rw [← hnn] at hn HROW ⊢
  have HN := Lib.hid hnn
  clear hM hrow hnn hcp h
  go_enter Tryd.func64, Tryd.ntmps64
  go_wp2_with fail
  go_loopw [5] (fun vi wr => ∃ i : Nat, vi = .int .i64 i ∧ 1 ≤ i ∧ i ≤ n + 1 ∧ RisesTo ltB xs i ∧ Kept NoBlock w wr) (fun vi _ => n + 1 - (intOf vi).toNat)
  case atStart => exact ⟨1, rfl, Nat.le_refl _, by omega, RisesTo.one _ _, Kept.refl _ _⟩
  case round =>
    obtain ⟨i, rfl, hi1, hi, hr, hk⟩ := hrel
    have HR := Lib.hid hr
    have HK := Lib.hid hk
    clear hr hk
    by_cases hlt : i < n
    · obtain ⟨j, hj⟩ : ∃ j, i = j + 1 := ⟨i - 1, by omega⟩
      have hjl : j < xs.length := by have := HN.out; omega
      have hil : i < xs.length := by have := HN.out; omega
      obtain ⟨a, ha⟩ : ∃ a, xs[j]? = some a := ⟨xs[j], List.getElem?_eq_getElem hjl⟩
      obtain ⟨b, hb⟩ : ∃ b, xs[i]? = some b := ⟨xs[i], List.getElem?_eq_getElem hil⟩
      obtain ⟨ad, rfl, a0⟩ := RowV.cell (RowV.keptNo HROW.out HK.out) (row_map ha)
      obtain ⟨ad', he, b0⟩ := RowV.cell (RowV.keptNo HROW.out HK.out) (row_map hb)
      obtain rfl := Option.some.inj he
      have hwr : IntKind.i64.wrap ((i : Int) - 1) = (j : Int) := by rw [IntWalk.i64_in _ (by omega)]; omega
      have hjn : j < n := by omega
      have HJ := Lib.hid hj
      have HA := Lib.hid ha
      have HB := Lib.hid hb
      clear ha hb hj hjl hil
      go_wp2_with fail
      refine wp_plan 0 [1, 2, 3, 4, 5, 6, 7, 8, 9] 10 [] [11] (by kernel_rfl) (by kernel_rfl) ?_
      simp only [wpPlan, pick, List.filterMap_cons, List.filterMap_nil, List.getElem?_cons_succ, List.getElem?_cons_zero]
      repeat (quiet_step (fail))
      refine wpQuiet_nil ?_
      rintro _ ⟨q1, rfl⟩
      clear a0 b0 hwr
      go_wp2_with fail
      refine (pcmpStr a b _).mono ?_
      rintro e w2 ⟨rfl, hk2⟩
      have HK2 := Lib.hid ((HK.out.drewN q1).trans hk2)
      have hneg := cmp_S a b
      generalize Lib.compareBytes a b = c at *
      have HNEG := Lib.hid hneg
      clear hk2 hneg
      go_wp2_with fail
      refine Halt.mk ?_
      repeat (quiet_step (fail))
      refine wpQuiet_nil ?_
      rintro _ ⟨q2, rfl⟩
      have hneg := HNEG.out
      have HK3 := Lib.hid (HK2.out.drewN q2)
      generalize w2.drewN q2 = w3 at *
      cases hl : ltB a b with
      | true =>
        rw [hl] at hneg
        have hr3 := HR.out.next HJ.out HA.out HB.out hl
        have HR3 := Lib.hid hr3
        have hneg2 : c < 0 := by simpa using hneg
        clear hl hneg hr3
        go_wp2_with fail
        go_roundw
        case rel => exact ⟨i + 1, by go_num, by omega, by omega, HR3.out, HK3.out⟩
        case measure => simp [intOf]; omega
      | false =>
        rw [hl] at hneg
        have hfin : M = false := by rw [← HM.out]; exact not_rises HA.out (by have := HB.out; rw [HJ.out] at this; exact this) hl
        have hneg2 : 0 ≤ c := by simpa using hneg
        subst hfin
        clear hl hneg
        go_wp2_with fail
        go_ret
        exact ⟨rfl, HK3.out⟩
    · have hfin : M = true := by rw [← HM.out]; exact HR.out.all (by have := HN.out; omega)
      subst hfin
      go_wp2_with fail
      go_ret
      exact ⟨rfl, HK.out⟩

set_option maxRecDepth 100000 in
theorem prisF (v : Value) (xs : List (Bs × Bs)) (w : World) (h : RowK 2 hCells w v xs) (hn : xs.length ≤ 70000000) :
    Calls Tryd.prog 70 #[v, .func (.func 71) #[] #[]] w fun e w' => e = .returned (.bool (risesBy ltF xs)) ∧ Kept NoBlock w w' := by
  have hrow := h
  obtain ⟨ap, cap, rfl, hcp⟩ := hrow.parts
  generalize hM : risesBy ltF xs = M
  have HM := Lib.hid hM
  have HROW := Lib.hid hrow
  obtain ⟨n, hnn⟩ : ∃ n, n = xs.length := ⟨_, rfl⟩
  rw [← hnn] at hn HROW ⊢
  have HN := Lib.hid hnn
  clear hM hrow hnn hcp h
  go_enter Tryd.func70, Tryd.ntmps70
  go_wp2_with fail
  go_loopw [5] (fun vi wr => ∃ i : Nat, vi = .int .i64 i ∧ 1 ≤ i ∧ i ≤ n + 1 ∧ RisesTo ltF xs i ∧ Kept NoBlock w wr) (fun vi _ => n + 1 - (intOf vi).toNat)
  case atStart => exact ⟨1, rfl, Nat.le_refl _, by omega, RisesTo.one _ _, Kept.refl _ _⟩
  case round =>
    obtain ⟨i, rfl, hi1, hi, hr, hk⟩ := hrel
    have HR := Lib.hid hr
    have HK := Lib.hid hk
    clear hr hk
    by_cases hlt : i < n
    · obtain ⟨j, hj⟩ : ∃ j, i = j + 1 := ⟨i - 1, by omega⟩
      have hjl : j < xs.length := by have := HN.out; omega
      have hil : i < xs.length := by have := HN.out; omega
      obtain ⟨a, ha⟩ : ∃ a, xs[j]? = some a := ⟨xs[j], List.getElem?_eq_getElem hjl⟩
      obtain ⟨b, hb⟩ : ∃ b, xs[i]? = some b := ⟨xs[i], List.getElem?_eq_getElem hil⟩
      obtain ⟨ad, rfl, a0, a1⟩ := agg_two (fun _ => rfl) (RowK.kept HROW.out HK.out) ha rfl
      obtain ⟨ad', he, b0, b1⟩ := agg_two (fun _ => rfl) (RowK.kept HROW.out HK.out) hb rfl
      obtain rfl := Option.some.inj he
      have hwr : IntKind.i64.wrap ((i : Int) - 1) = (j : Int) := by rw [IntWalk.i64_in _ (by omega)]; omega
      have hjn : j < n := by omega
      have HJ := Lib.hid hj
      have HA := Lib.hid ha
      have HB := Lib.hid hb
      clear ha hb hj hjl hil
      go_wp2_with fail
      refine wp_plan 0 [1, 2, 3, 4, 5, 6, 7, 8, 9] 10 [] [11] (by kernel_rfl) (by kernel_rfl) ?_
      simp only [wpPlan, pick, List.filterMap_cons, List.filterMap_nil, List.getElem?_cons_succ, List.getElem?_cons_zero]
      repeat (quiet_step (fail))
      refine wpQuiet_nil ?_
      rintro _ ⟨q1, rfl⟩
      clear a0 b0 a1 b1 hwr
      go_wp2_with fail
      refine (pbyField a b _).mono ?_
      rintro e w2 ⟨rfl, hk2⟩
      have HK2 := Lib.hid ((HK.out.drewN q1).trans hk2)
      have hneg := cmp_F a b
      generalize Lib.compareBytes a.1 b.1 = c at *
      have HNEG := Lib.hid hneg
      clear hk2 hneg
      go_wp2_with fail
      refine Halt.mk ?_
      repeat (quiet_step (fail))
      refine wpQuiet_nil ?_
      rintro _ ⟨q2, rfl⟩
      have hneg := HNEG.out
      have HK3 := Lib.hid (HK2.out.drewN q2)
      generalize w2.drewN q2 = w3 at *
      cases hl : ltF a b with
      | true =>
        rw [hl] at hneg
        have hr3 := HR.out.next HJ.out HA.out HB.out hl
        have HR3 := Lib.hid hr3
        have hneg2 : c < 0 := by simpa using hneg
        clear hl hneg hr3
        go_wp2_with fail
        go_roundw
        case rel => exact ⟨i + 1, by go_num, by omega, by omega, HR3.out, HK3.out⟩
        case measure => simp [intOf]; omega
      | false =>
        rw [hl] at hneg
        have hfin : M = false := by rw [← HM.out]; exact not_rises HA.out (by have := HB.out; rw [HJ.out] at this; exact this) hl
        have hneg2 : 0 ≤ c := by simpa using hneg
        subst hfin
        clear hl hneg
        go_wp2_with fail
        go_ret
        exact ⟨rfl, HK3.out⟩
    · have hfin : M = true := by rw [← HM.out]; exact HR.out.all (by have := HN.out; omega)
      subst hfin
      go_wp2_with fail
      go_ret
      exact ⟨rfl, HK.out⟩

set_option maxRecDepth 100000 in
theorem prisZ (v : Value) (xs : List (Bs × Int)) (w : World) (h : RowK 2 zCells w v xs) (hn : xs.length ≤ 70000000) :
    Calls Tryd.prog 80 #[v, .func (.func 81) #[] #[]] w fun e w' => e = .returned (.bool (risesBy ltZ xs)) ∧ Kept NoBlock w w' := by
  have hrow := h
  obtain ⟨ap, cap, rfl, hcp⟩ := hrow.parts
  generalize hM : risesBy ltZ xs = M
  have HM := Lib.hid hM
  have HROW := Lib.hid hrow
  obtain ⟨n, hnn⟩ : ∃ n, n = xs.length := ⟨_, rfl⟩
  rw [← hnn] at hn HROW ⊢
  have HN := Lib.hid hnn
  clear hM hrow hnn hcp h
  go_enter Tryd.func80, Tryd.ntmps80
  go_wp2_with fail
  go_loopw [5] (fun vi wr => ∃ i : Nat, vi = .int .i64 i ∧ 1 ≤ i ∧ i ≤ n + 1 ∧ RisesTo ltZ xs i ∧ Kept NoBlock w wr) (fun vi _ => n + 1 - (intOf vi).toNat)
  case atStart => exact ⟨1, rfl, Nat.le_refl _, by omega, RisesTo.one _ _, Kept.refl _ _⟩
  case round =>
    obtain ⟨i, rfl, hi1, hi, hr, hk⟩ := hrel
    have HR := Lib.hid hr
    have HK := Lib.hid hk
    clear hr hk
    by_cases hlt : i < n
    · obtain ⟨j, hj⟩ : ∃ j, i = j + 1 := ⟨i - 1, by omega⟩
      have hjl : j < xs.length := by have := HN.out; omega
      have hil : i < xs.length := by have := HN.out; omega
      obtain ⟨a, ha⟩ : ∃ a, xs[j]? = some a := ⟨xs[j], List.getElem?_eq_getElem hjl⟩
      obtain ⟨b, hb⟩ : ∃ b, xs[i]? = some b := ⟨xs[i], List.getElem?_eq_getElem hil⟩
      obtain ⟨ad, rfl, a0, a1⟩ := agg_two (fun _ => rfl) (RowK.kept HROW.out HK.out) ha rfl
      obtain ⟨ad', he, b0, b1⟩ := agg_two (fun _ => rfl) (RowK.kept HROW.out HK.out) hb rfl
      obtain rfl := Option.some.inj he
      have hwr : IntKind.i64.wrap ((i : Int) - 1) = (j : Int) := by rw [IntWalk.i64_in _ (by omega)]; omega
      have hjn : j < n := by omega
      have HJ := Lib.hid hj
      have HA := Lib.hid ha
      have HB := Lib.hid hb
      clear ha hb hj hjl hil
      go_wp2_with fail
      refine wp_plan 0 [1, 2, 3, 4, 5, 6, 7, 8, 9] 10 [] [11] (by kernel_rfl) (by kernel_rfl) ?_
      simp only [wpPlan, pick, List.filterMap_cons, List.filterMap_nil, List.getElem?_cons_succ, List.getElem?_cons_zero]
      repeat (quiet_step (fail))
      refine wpQuiet_nil ?_
      rintro _ ⟨q1, rfl⟩
      clear a0 b0 a1 b1 hwr
      go_wp2_with fail
      refine (porder a b _).mono ?_
      rintro e w2 ⟨rfl, hk2⟩
      have HK2 := Lib.hid ((HK.out.drewN q1).trans hk2)
      have hneg := cmp_Z a b
      generalize cmpZ a b = c at *
      have HNEG := Lib.hid hneg
      clear hk2 hneg
      go_wp2_with fail
      refine Halt.mk ?_
      repeat (quiet_step (fail))
      refine wpQuiet_nil ?_
      rintro _ ⟨q2, rfl⟩
      have hneg := HNEG.out
      have HK3 := Lib.hid (HK2.out.drewN q2)
      generalize w2.drewN q2 = w3 at *
      cases hl : ltZ a b with
      | true =>
        rw [hl] at hneg
        have hr3 := HR.out.next HJ.out HA.out HB.out hl
        have HR3 := Lib.hid hr3
        have hneg2 : c < 0 := by simpa using hneg
        clear hl hneg hr3
        go_wp2_with fail
        go_roundw
        case rel => exact ⟨i + 1, by go_num, by omega, by omega, HR3.out, HK3.out⟩
        case measure => simp [intOf]; omega
      | false =>
        rw [hl] at hneg
        have hfin : M = false := by rw [← HM.out]; exact not_rises HA.out (by have := HB.out; rw [HJ.out] at this; exact this) hl
        have hneg2 : 0 ≤ c := by simpa using hneg
        subst hfin
        clear hl hneg
        go_wp2_with fail
        go_ret
        exact ⟨rfl, HK3.out⟩
    · have hfin : M = true := by rw [← HM.out]; exact HR.out.all (by have := HN.out; omega)
      subst hfin
      go_wp2_with fail
      go_ret
      exact ⟨rfl, HK.out⟩
end Go.Proofs.YtfhlhpknobkplaaDoor
namespace Go.Proofs.YtfhlhpknobkplaaDoor
open Go.RowKit
attribute [local go_sem] fold_part fold_some fold_some' partAt_zero

theorem pshort (s : Bs) (w : World) : Calls Tryd.prog 58 #[strV s] w fun e w' => e = .returned (.bool (shortB s)) ∧ w' = w := by
  unfold strV shortB
  obtain ⟨S, hS⟩ : ∃ S : ByteArray, S = ⟨s.toArray⟩ := ⟨_, rfl⟩
  have hSz := str_size hS
  rw [← hS, ← hSz]
  clear hS hSz
  go_enter Tryd.func58, Tryd.ntmps58
  go_wp2_with fail
  go_ret
  refine ⟨?_, rfl⟩
  simp <;> omega
theorem psized (n : Nat) (w : World) (hn : n ≤ 70000000) : Calls Tryd.prog 66 #[.int .i64 n] w fun e w' => e = .returned (.bool (sizedN n)) ∧ w' = w := by
  unfold sizedN
  by_cases h1 : 1 ≤ n
  · by_cases h2 : n ≤ 65536
    · have e : decide (1 ≤ n ∧ n ≤ 65536) = true := by simp [h1, h2]
      rw [e]; clear e
      go_enter Tryd.func66, Tryd.ntmps66
      go_wp2_with fail
      go_ret
      exact ⟨by simp <;> omega, rfl⟩
    · have e : decide (1 ≤ n ∧ n ≤ 65536) = false := by simp [h2]
      rw [e]; clear e
      go_enter Tryd.func66, Tryd.ntmps66
      go_wp2_with fail
      go_ret
      exact ⟨by simp <;> omega, rfl⟩
  · have e : decide (1 ≤ n ∧ n ≤ 65536) = false := by simp [h1]
    rw [e]; clear e
    go_enter Tryd.func66, Tryd.ntmps66
    go_wp2_with fail
    go_ret
    exact ⟨by simp <;> omega, rfl⟩

theorem pright1 (s : Bs) (w : World) : Calls Tryd.prog 68 #[strV s] w fun e w' => e = .returned (.bool (!shortB s)) ∧ Kept NoBlock w w' := by
  have hs := pshort s
  generalize shortB s = M at *
  unfold strV at *
  have HS := Lib.hid hs
  clear hs
  go_enter Tryd.func68, Tryd.ntmps68
  go_wp2_with fail
  refine (HS.out _).mono ?_
  rintro e w2 ⟨rfl, rfl⟩
  go_wp2_with fail
  go_ret
  exact ⟨rfl, Kept.refl _ _⟩
def okF (f : Bs × Bs) : Bool := shortB f.1 && shortB f.2
theorem pright2 (f : Bs × Bs) (w : World) : Calls Tryd.prog 73 #[hA f] w fun e w' => e = .returned (.bool (!okF f)) ∧ Kept NoBlock w w' := by
  have hs1 := pshort f.1
  have hs2 := pshort f.2
  unfold okF
  generalize shortB f.1 = M1 at *
  generalize shortB f.2 = M2 at *
  unfold hA strV at *
  have HS1 := Lib.hid hs1
  have HS2 := Lib.hid hs2
  clear hs1 hs2
  cases M1
  · go_enter Tryd.func73, Tryd.ntmps73
    go_wp2_with fail
    refine (HS1.out _).mono ?_
    rintro e w2 ⟨rfl, rfl⟩
    go_wp2_with fail
    go_ret
    exact ⟨rfl, Kept.allocd _ _⟩
  · go_enter Tryd.func73, Tryd.ntmps73
    go_wp2_with fail
    refine (HS1.out _).mono ?_
    rintro e w2 ⟨rfl, rfl⟩
    go_wp2_with fail
    refine (HS2.out _).mono ?_
    rintro e w2 ⟨rfl, rfl⟩
    go_wp2_with fail
    go_ret
    exact ⟨rfl, Kept.allocd _ _⟩

/-- What the map of seen texts tells behind i members. -/
def Seen (w : World) (b : Nat) (zs : List (Bs × Int)) (i : Nat) : Prop := ∃ D : DataW Unit, w.ownsMap Tryd.prog 9 (plainElem Tryd.prog 3) b i D ∧
  (∀ s : Bs, Maps.has D (.string s) = ((zs.take i).map (·.1)).contains s) ∧ (Maps.size D = i ↔ distinctB ((zs.take i).map (·.1)) = true) 
theorem distinct_snoc : ∀ (l : List Bs) (s : Bs), distinctB (l ++ [s]) = (distinctB l && !l.contains s)
  | [], s => by simp [distinctB]
  | a :: l, s => by
    rw [List.cons_append, distinctB, distinct_snoc l s, distinctB]
    rw [Bool.eq_iff_iff]
    simp only [Bool.and_eq_true, Bool.not_eq_true', List.contains_eq_mem, decide_eq_false_iff_not, List.mem_append, List.mem_cons, List.not_mem_nil, or_false, not_or]
    constructor
    · rintro ⟨⟨h1, h2⟩, h3, h4⟩; exact ⟨⟨h1, h3⟩, fun e => h2 e.symm, h4⟩
    · rintro ⟨⟨h1, h3⟩, h2, h4⟩; exact ⟨⟨h1, fun e => h2 e.symm⟩, h3, h4⟩
theorem Seen.start (w : World) (zs : List (Bs × Int)) : Seen (w.alloc (.map #[] 0)) w.heap.size zs 0 :=
  ⟨.map [], World.ownsMap_made w Tryd.prog 9 (plainElem Tryd.prog 3), fun s => by simp [Maps.has], by simp [Maps.size, distinctB]⟩
theorem Seen.next {w w' : World} {b i : Nat} {zs : List (Bs × Int)} {z : Bs × Int} {D : DataW Unit} {d : DataW Unit} (h0 : w.ownsMap Tryd.prog 9 (plainElem Tryd.prog 3) b i D)
    (h1 : ∀ s : Bs, Maps.has D (.string s) = ((zs.take i).map (·.1)).contains s) (h2 : Maps.size D = i ↔ distinctB ((zs.take i).map (·.1)) = true) (hz : zs[i]? = some z)
    (h : w'.ownsMap Tryd.prog 9 (plainElem Tryd.prog 3) b (i + 1) (D.put (.string z.1) d)) : Seen w' b zs (i + 1) := by
  obtain ⟨hl, e⟩ := List.getElem?_eq_some_iff.1 hz
  have ht : (zs.take (i + 1)).map (·.1) = (zs.take i).map (·.1) ++ [z.1] := by rw [List.take_succ_eq_append_getElem hl, e]; simp
  have K := Maps.string_keyed Tryd.underlying9
  have htid := h0.tidy K
  have hle := h0.size_le
  refine ⟨_, h, fun s => ?_, ?_⟩
  · rw [ht]
    by_cases hs : s = z.1
    · subst hs
      rw [Maps.has_put_same htid.isMap (by trivial)]
      simp
    · rw [Maps.has_put_other (fun e => hs (by cases e; rfl)), h1]
      rw [Bool.eq_iff_iff]
      simp [hs]
  · rw [ht, distinct_snoc, Maps.size_put htid, h1]
    rw [Bool.and_eq_true, ← h2]
    by_cases hc : ((zs.take i).map (·.1)).contains z.1 = true
    · rw [if_pos hc, hc]
      simp only [Bool.not_true, Bool.false_eq_true, and_false, iff_false]
      omega
    · rw [if_neg hc]
      rw [Bool.not_eq_true] at hc
      rw [hc]
      simp
theorem Seen.kept {w w' : World} {b i : Nat} {zs : List (Bs × Int)} (h : Seen w b zs i) (hk : Kept NoBlock w w') : Seen w' b zs i := by
  obtain ⟨D, ⟨es, clock, hb, rest⟩, h1, h2⟩ := h
  exact ⟨D, ⟨es, clock, hk.heap hb (fun h => h), rest⟩, h1, h2⟩

def zsetB (zs : List (Bs × Int)) : Bool := zs.all (fun z => shortB z.1) && (distinctB (zs.map (·.1)) && risesBy ltZ zs)

set_option maxRecDepth 100000 in
theorem pzset (v : Value) (zs : List (Bs × Int)) (w : World) (h : RowK 2 zCells w v zs) (hn : zs.length ≤ 70000000) (hs : ∀ z ∈ zs, z.1.length ≤ 1000000000000000) :
    Calls Tryd.prog 69 #[v] w fun e w' => e = .returned (.bool (zsetB zs)) ∧ Kept NoBlock w w' := by
  have hrow := h
  obtain ⟨ap, cap, rfl, hcp⟩ := hrow.parts
  generalize hM : zsetB zs = M
  have hmm := @run_makeMap Tryd.prog
  have HM := Lib.hid hM
  have HROW := Lib.hid hrow
  have HS := Lib.hid hs
  obtain ⟨n, hnn⟩ : ∃ n, n = zs.length := ⟨_, rfl⟩
  rw [← hnn] at hn HROW ⊢
  have HN := Lib.hid hnn
  clear hM hrow hnn hcp h hs
  have HSE := Lib.hid (Seen.start w zs)
  have HKA := Lib.hid (Kept.allocd w (.map #[] 0))
  go_enter Tryd.func69, Tryd.ntmps69
  go_wp2_with fail
  generalize w.alloc (.map #[] 0) = W1 at *
  generalize hb : w.heap.size = b at *
  have HB := Lib.hid hb
  clear hb
  go_loopw [9] (fun vi wr => ∃ i : Nat, vi = .int .i64 i ∧ i ≤ n ∧ (zs.take i).all (fun z => shortB z.1) = true ∧ Seen wr b zs i ∧ Kept NoBlock w wr) (fun vi _ => n - (intOf vi).toNat)
  case atStart => exact ⟨0, rfl, Nat.zero_le _, rfl, HSE.out, HKA.out⟩
  case round =>
    obtain ⟨i, rfl, hi, hr, ⟨D, hD, hd1, hd2⟩, hk⟩ := hrel
    have HR := Lib.hid hr
    have HK := Lib.hid hk
    have HD := Lib.hid hD
    have HD1 := Lib.hid hd1
    have HD2 := Lib.hid hd2
    clear hr hk hD hd1 hd2
    by_cases hlt : i < n
    · have hil : i < zs.length := by have := HN.out; omega
      obtain ⟨z, hz⟩ : ∃ z, zs[i]? = some z := ⟨zs[i], List.getElem?_eq_getElem hil⟩
      obtain ⟨ad, rfl, a0, a1⟩ := agg_two (fun _ => rfl) (RowK.kept HROW.out HK.out) hz rfl
      have hzl := HS.out z (List.mem_of_getElem? hz)
      obtain ⟨S, hS⟩ : ∃ S : ByteArray, S = ⟨z.1.toArray⟩ := ⟨_, rfl⟩
      have hSz := str_size hS
      have hSd : S.data.toList = z.1 := by rw [hS]
      unfold strV at a0
      rw [← hS] at a0
      have hkey := Go.WideMaps.keyOf_string_mk (k := 9) (P := Tryd.prog) Tryd.underlying9 (s := S) (by rw [hSz]; unfold maxLen; omega)
      rw [hSd] at hkey
      have HZ := Lib.hid hz
      have hKA := Kept.allocd wr (.cells #[.string S, .int .i64 z.2] 99)
      have HKA2 := Lib.hid hKA
      have hDA := HD.out.alloc (.cells #[.string S, .int .i64 z.2] 99)
      have HDA := Lib.hid hDA
      have hG := heap_alloc_new wr (.cells #[.string S, .int .i64 z.2] 99)
      have HG := Lib.hid hG
      have hbw := HD.out.lt
      have HPS := Lib.hid (pshort z.1)
      have HKEY := Lib.hid hkey
      have hst : strV z.1 = .string S := by unfold strV; rw [hS]
      rw [hst] at HPS
      have HWF : Hid ((Lit.int .i64 (i : Int)).wf = true) := Lib.hid (by simp only [Lit.wf, Bool.and_eq_true, decide_eq_true_eq]; have h1 : IntKind.i64.min = -9223372036854775808 := by decide
                                                                         have h2 : IntKind.i64.max = 9223372036854775807 := by decide
                                                                         omega)
      clear hz hil hzl hS hSz hSd hKA hDA hG hkey hst
      go_wp2_with (at_mapUpdate; refine wpList_mapUpdate_own _ rfl _ _ _ 116 rfl 9 3 (Maps.string_keyed Tryd.underlying9) Tryd.underlying116 _ b i D rfl HDA.out (by unfold maxLen; omega) _ _ _ rfl rfl HKEY.out (.lit (.int .i64 i)) [] (plainElem_int Tryd.underlying3 HWF.out) ?_; intro w5 hown5 hgr5; refine Hid.out ?_)
      have hg5 : w5.heap[wr.heap.size]? = some (.cells #[.string S, .int .i64 z.2] 99 (0, 0)) := by
        rw [hgr5.block wr.heap.size (by simp) (by simp; omega)]
        exact HG.out
      have d0 := cellB hg5 (i := 0) rfl
      have HS5 := Lib.hid (Seen.next HD.out HD1.out HD2.out HZ.out hown5)
      have HK5 := Lib.hid ((HK.out.trans HKA2.out).grown hgr5 (fun k e hlt => by cases e; have := HB.out; omega))
      clear hown5 hgr5 hg5 a0 a1
      refine Lib.hid ?_
      go_wp2_with fail
      refine (HPS.out _).mono ?_
      rintro e w6 ⟨rfl, rfl⟩
      cases hl : shortB z.1 with
      | true =>
        have HR3 := Lib.hid (all_next HR.out HZ.out hl)
        clear hl d0
        go_wp2_with fail
        go_roundw
        case rel => exact ⟨i + 1, by go_num, by omega, HR3.out, HS5.out, HK5.out⟩
        case measure => simp [intOf]; omega
      | false =>
        have hfin : M = false := by
          rw [← HM.out]
          have := all_not (ok := fun z : Bs × Int => shortB z.1) HZ.out hl
          unfold zsetB
          rw [this]
          rfl
        subst hfin
        clear hl d0
        go_wp2_with fail
        go_ret
        exact ⟨rfl, HK5.out⟩
    · have htk : zs.take i = zs := List.take_of_length_le (by have := HN.out; omega)
      obtain rfl : i = n := by omega
      have h1 := HR.out
      have h2 := HD2.out
      rw [htk] at h1 h2
      have hpr := prisZ _ zs wr (RowK.kept HROW.out HK.out) (by have := HN.out; omega)
      have hmz := HM.out
      unfold zsetB at hmz
      rw [h1, Bool.true_and] at hmz
      clear hmm h1 htk
      by_cases hsz : Maps.size D = i
      · rw [h2.1 hsz, Bool.true_and] at hmz
        rw [hmz] at hpr
        have HPR := Lib.hid hpr
        have HSZ := Lib.hid hsz
        have hszi : ((Maps.size D : Nat) : Int) = (i : Int) := by rw [hsz]
        clear h2 hsz hpr hmz
        go_wp2_with (at_len; refine wpList_len_own _ rfl _ 116 rfl 9 3 Tryd.underlying116 _ b i D rfl HD.out ?_)
        refine HPR.out.mono ?_
        rintro e w6 ⟨rfl, hk6⟩
        have HK6 := Lib.hid (HK.out.trans hk6)
        clear hk6
        go_wp2_with fail
        go_ret
        exact ⟨rfl, HK6.out⟩
      · have hdf : distinctB (zs.map (·.1)) = false := by
          rw [← Bool.not_eq_true]
          exact fun h => hsz (h2.2 h)
        rw [hdf, Bool.false_and] at hmz
        subst hmz
        have hszi : ¬ (((Maps.size D : Nat) : Int) = (i : Int)) := by omega
        clear h2 hsz hpr hdf
        go_wp2_with (at_len; refine wpList_len_own _ rfl _ 116 rfl 9 3 Tryd.underlying116 _ b i D rfl HD.out ?_)
        go_ret
        exact ⟨rfl, HK.out⟩
end Go.Proofs.YtfhlhpknobkplaaDoor
namespace Go.Proofs.YtfhlhpknobkplaaDoor
open Go.RowKit
attribute [local go_sem] fold_part fold_some fold_some' partAt_zero

set_option maxRecDepth 100000 in
theorem pindS (v : Value) (xs : List Bs) (w : World) (h : RowV w v (xs.map strV)) (hn : xs.length ≤ 70000000) :
    Calls Tryd.prog 79 #[v, .func (.func 68) #[] #[]] w fun e w' => (∃ x : Int, e = .returned (.int .i64 x) ∧ decide (0 ≤ x) = !(xs.all shortB)) ∧ Kept NoBlock w w' := by
  have hrow := h
  obtain ⟨ap, cap, rfl, hcp⟩ := hrow.parts
  generalize hM : xs.all shortB = M
  have HM := Lib.hid hM
  have HROW := Lib.hid hrow
  rw [List.length_map] at HROW ⊢
  obtain ⟨n, hnn⟩ : ∃ n, n = xs.length := ⟨_, rfl⟩
  rw [← hnn] at hn HROW ⊢
  have HN := Lib.hid hnn
  clear hM hrow hnn hcp h
  go_enter Tryd.func79, Tryd.ntmps79
  go_wp2_with fail
  go_loopw [8] (fun vi wr => ∃ i : Nat, vi = .int .i64 i ∧ i ≤ n ∧ (xs.take i).all shortB = true ∧ Kept NoBlock w wr) (fun vi _ => n - (intOf vi).toNat)
  case atStart => exact ⟨0, rfl, Nat.zero_le _, rfl, Kept.refl _ _⟩
  case round =>
    obtain ⟨i, rfl, hi, hr, hk⟩ := hrel
    have HR := Lib.hid hr
    have HK := Lib.hid hk
    clear hr hk
    by_cases hlt : i < n
    · have hil : i < xs.length := by have := HN.out; omega
      obtain ⟨a, ha⟩ : ∃ a, xs[i]? = some a := ⟨xs[i], List.getElem?_eq_getElem hil⟩
      obtain ⟨ad, rfl, a0⟩ := RowV.cell (RowV.keptNo HROW.out HK.out) (row_map ha)
      have HA := Lib.hid ha
      clear ha hil
      go_wp2_with fail
      clear a0
      refine (pright1 a _).mono ?_
      rintro e w2 ⟨rfl, hk2⟩
      have HK2 := Lib.hid (HK.out.trans hk2)
      clear hk2
      cases hl : shortB a with
      | true =>
        have HR3 := Lib.hid (all_next HR.out HA.out hl)
        clear hl
        go_wp2_with fail
        go_roundw
        case rel => exact ⟨i + 1, by go_num, by omega, HR3.out, HK2.out⟩
        case measure => simp [intOf]; omega
      | false =>
        have hfin : M = false := by rw [← HM.out]; exact all_not HA.out hl
        subst hfin
        clear hl
        go_wp2_with fail
        go_ret
        refine ⟨⟨i, rfl, ?_⟩, HK2.out⟩
        simp
    · have hfin : M = true := by
        rw [← HM.out]
        have := HR.out
        rw [List.take_of_length_le (by have := HN.out; omega)] at this
        exact this
      subst hfin
      go_wp2_with fail
      go_ret
      exact ⟨⟨-1, rfl, rfl⟩, HK.out⟩
set_option maxRecDepth 100000 in
theorem pconS (v : Value) (xs : List Bs) (w : World) (h : RowV w v (xs.map strV)) (hn : xs.length ≤ 70000000) :
    Calls Tryd.prog 67 #[v, .func (.func 68) #[] #[]] w fun e w' => e = .returned (.bool (!(xs.all shortB))) ∧ Kept NoBlock w w' := by
  have hin := pindS v xs w h hn
  generalize (!(xs.all shortB)) = M at *
  have HIN := Lib.hid hin
  clear hin h hn
  go_enter Tryd.func67, Tryd.ntmps67
  go_wp2_with fail
  refine HIN.out.mono ?_
  rintro e w2 ⟨⟨x, rfl, hx⟩, hk2⟩
  have HK2 := Lib.hid hk2
  clear hk2
  go_wp2_with fail
  go_ret
  exact ⟨rfl, HK2.out⟩

set_option maxRecDepth 100000 in
theorem pindF (v : Value) (xs : List (Bs × Bs)) (w : World) (h : RowK 2 hCells w v xs) (hn : xs.length ≤ 70000000) :
    Calls Tryd.prog 82 #[v, .func (.func 73) #[] #[]] w fun e w' => (∃ x : Int, e = .returned (.int .i64 x) ∧ decide (0 ≤ x) = !(xs.all okF)) ∧ Kept NoBlock w w' := by
  have hrow := h
  obtain ⟨ap, cap, rfl, hcp⟩ := hrow.parts
  generalize hM : xs.all okF = M
  have HM := Lib.hid hM
  have HROW := Lib.hid hrow
  obtain ⟨n, hnn⟩ : ∃ n, n = xs.length := ⟨_, rfl⟩
  rw [← hnn] at hn HROW ⊢
  have HN := Lib.hid hnn
  clear hM hrow hnn hcp h
  go_enter Tryd.func82, Tryd.ntmps82
  go_wp2_with fail
  go_loopw [8] (fun vi wr => ∃ i : Nat, vi = .int .i64 i ∧ i ≤ n ∧ (xs.take i).all okF = true ∧ Kept NoBlock w wr) (fun vi _ => n - (intOf vi).toNat)
  case atStart => exact ⟨0, rfl, Nat.zero_le _, rfl, Kept.refl _ _⟩
  case round =>
    obtain ⟨i, rfl, hi, hr, hk⟩ := hrel
    have HR := Lib.hid hr
    have HK := Lib.hid hk
    clear hr hk
    by_cases hlt : i < n
    · have hil : i < xs.length := by have := HN.out; omega
      obtain ⟨a, ha⟩ : ∃ a, xs[i]? = some a := ⟨xs[i], List.getElem?_eq_getElem hil⟩
      obtain ⟨ad, rfl, a0, a1⟩ := agg_two (fun _ => rfl) (RowK.kept HROW.out HK.out) ha rfl
      have HA := Lib.hid ha
      clear ha hil
      go_wp2_with fail
      clear a0 a1
      refine (pright2 a _).mono ?_
      rintro e w2 ⟨rfl, hk2⟩
      have HK2 := Lib.hid (HK.out.trans hk2)
      clear hk2
      cases hl : okF a with
      | true =>
        have HR3 := Lib.hid (all_next HR.out HA.out hl)
        clear hl
        go_wp2_with fail
        go_roundw
        case rel => exact ⟨i + 1, by go_num, by omega, HR3.out, HK2.out⟩
        case measure => simp [intOf]; omega
      | false =>
        have hfin : M = false := by rw [← HM.out]; exact all_not HA.out hl
        subst hfin
        clear hl
        go_wp2_with fail
        go_ret
        refine ⟨⟨i, rfl, ?_⟩, HK2.out⟩
        simp
    · have hfin : M = true := by
        rw [← HM.out]
        have := HR.out
        rw [List.take_of_length_le (by have := HN.out; omega)] at this
        exact this
      subst hfin
      go_wp2_with fail
      go_ret
      exact ⟨⟨-1, rfl, rfl⟩, HK.out⟩
set_option maxRecDepth 100000 in
theorem pconF (v : Value) (xs : List (Bs × Bs)) (w : World) (h : RowK 2 hCells w v xs) (hn : xs.length ≤ 70000000) :
    Calls Tryd.prog 72 #[v, .func (.func 73) #[] #[]] w fun e w' => e = .returned (.bool (!(xs.all okF))) ∧ Kept NoBlock w w' := by
  have hin := pindF v xs w h hn
  generalize (!(xs.all okF)) = M at *
  have HIN := Lib.hid hin
  clear hin h hn
  go_enter Tryd.func72, Tryd.ntmps72
  go_wp2_with fail
  refine HIN.out.mono ?_
  rintro e w2 ⟨⟨x, rfl, hx⟩, hk2⟩
  have HK2 := Lib.hid hk2
  clear hk2
  go_wp2_with fail
  go_ret
  exact ⟨rfl, HK2.out⟩
end Go.Proofs.YtfhlhpknobkplaaDoor
namespace Go.Proofs.YtfhlhpknobkplaaDoor
open Go.RowKit
attribute [local go_sem] fold_part fold_some fold_some' partAt_zero

theorem str_empty {S : ByteArray} {s : Bs} (hS : S = ⟨s.toArray⟩) : S.toList.isEmpty = s.isEmpty := by
  subst hS
  rw [Go.ByteArray.toList_eq]
theorem empty_len {α : Type} (l : List α) : l.isEmpty = decide (l.length = 0) := by cases l <;> simp
/-- A value's test, as the program has it. -/
def rightB (kk : Int) (s : Bs) (L : List Bs) (Z : List (Bs × Int)) (H : List (Bs × Bs)) : Bool :=
  if kk = 1 then shortB s && decide (L.length + Z.length + H.length = 0)
  else if kk = 3 then risesBy ltB L && ((sizedN L.length && L.all shortB) && (s.isEmpty && decide (Z.length + H.length = 0)))
  else if kk = 2 then (sizedN L.length && L.all shortB) && (s.isEmpty && decide (Z.length + H.length = 0))
  else if kk = 4 then (sizedN Z.length && zsetB Z) && (s.isEmpty && decide (L.length + H.length = 0))
  else if kk = 5 then (sizedN H.length && (risesBy ltF H && H.all okF)) && (s.isEmpty && decide (L.length + Z.length = 0))
  else false
theorem rises_map {α β : Type} (lt : β → β → Bool) (f : α → β) : ∀ l : List α, risesBy (fun a b => lt (f a) (f b)) l = risesBy lt (l.map f)
  | [] => rfl
  | [_] => rfl
  | a :: b :: l => by
    have := rises_map lt f (b :: l)
    simp only [List.map_cons] at this ⊢
    rw [risesBy, this, risesBy]
theorem sum0 (a b : Nat) : decide (a + b = 0) = (decide (a = 0) && decide (b = 0)) := by rw [Bool.eq_iff_iff]; simp
theorem valOk_eq (kk : Int) (s : Bs) (L : List Bs) (Z : List (Bs × Int)) (H : List (Bs × Bs)) : valOk ⟨kk, s, L, Z, H⟩ = rightB kk s L Z H := by
  unfold valOk rightB zsetB
  simp only [empty_len, sum0]
  have e1 : risesBy ltF H = risesBy ltB (H.map (·.1)) := rises_map ltB (fun f : Bs × Bs => f.1) H
  have e2 : (H.all fun f => shortB f.1 && shortB f.2) = H.all okF := rfl
  rw [e1, e2]
  generalize decide (s.length = 0) = a
  generalize decide (L.length = 0) = b
  generalize decide (Z.length = 0) = c
  generalize decide (H.length = 0) = d
  generalize risesBy ltB L = e
  generalize sizedN L.length = f
  generalize L.all shortB = g
  generalize sizedN Z.length = h
  generalize sizedN H.length = i
  generalize (Z.all fun z => shortB z.1) = j
  generalize distinctB (Z.map (·.1)) = k
  generalize risesBy ltZ Z = l
  generalize risesBy ltB (H.map (·.1)) = m
  generalize H.all okF = n
  generalize shortB s = o
  by_cases h1 : kk = 1
  · rw [if_pos h1, if_pos h1]
  · rw [if_neg h1, if_neg h1]
    by_cases h3 : kk = 3
    · rw [if_neg (by omega), if_pos h3, if_pos h3]; clear h j k l m n o i; revert a b c d e f g; decide
    · by_cases h2 : kk = 2
      · rw [if_pos h2, if_neg h3, if_pos h2]; clear h j k l m n o i e; revert a b c d f g; decide
      · rw [if_neg h2, if_neg h3, if_neg h3, if_neg h2]
        by_cases h4 : kk = 4
        · rw [if_pos h4, if_pos h4]; clear e f g i m n o; revert a b c d h j k l; decide
        · rw [if_neg h4, if_neg h4]
          by_cases h5 : kk = 5
          · rw [if_pos h5, if_pos h5]; clear e f g h j k l o; revert a b c d i m n; decide
          · rw [if_neg h5, if_neg h5]
theorem blk5 {w : World} {g : Nat} {a b c d e : Value} {T : TypeId} (hg : w.heap[g]? = some (.cells #[a, b, c, d, e] T (0, 0))) :
    w.cell? ⟨g, 0, none⟩ = some a ∧ w.cell? ⟨g, 1, none⟩ = some b ∧ w.cell? ⟨g, 2, none⟩ = some c ∧ w.cell? ⟨g, 3, none⟩ = some d ∧ w.cell? ⟨g, 4, none⟩ = some e :=
  ⟨cellB hg rfl, cellB hg rfl, cellB hg rfl, cellB hg rfl, cellB hg rfl⟩

set_option maxRecDepth 100000 in
set_option maxHeartbeats 1600000 in
theorem pright (kk : Int) (s : Bs) (L : List Bs) (Z : List (Bs × Int)) (H : List (Bs × Bs)) (vL vZ vH : Value) (w : World) (hL : RowV w vL (L.map strV)) (hZ : RowK 2 zCells w vZ Z) (hH : RowK 2 hCells w vH H)
    (nL : L.length ≤ 70000000) (nZ : Z.length ≤ 70000000) (nH : H.length ≤ 70000000) (sZ : ∀ z ∈ Z, z.1.length ≤ 1000000000000000) :
    Calls Tryd.prog 59 #[.agg #[.int .i64 kk, strV s, vL, vZ, vH]] w fun e w' => e = .returned (.bool (valOk ⟨kk, s, L, Z, H⟩)) ∧ Kept NoBlock w w' := by
  obtain ⟨apL, capL, rfl, _⟩ := hL.parts
  obtain ⟨apZ, capZ, rfl, _⟩ := hZ.parts
  obtain ⟨apH, capH, rfl, _⟩ := hH.parts
  rw [List.length_map] at hL ⊢
  rw [valOk_eq]
  generalize hM : rightB kk s L Z H = M
  unfold rightB at hM
  have HM := Lib.hid hM
  have HL := Lib.hid hL
  have HZ := Lib.hid hZ
  have HH := Lib.hid hH
  have HSZ := Lib.hid sZ
  obtain ⟨S, hS⟩ : ∃ S : ByteArray, S = ⟨s.toArray⟩ := ⟨_, rfl⟩
  have hse := str_empty hS
  have hps := pshort s
  unfold strV at hps ⊢
  rw [← hS] at hps ⊢
  have HPS := Lib.hid hps
  obtain ⟨a, ha⟩ : ∃ a, a = L.length := ⟨_, rfl⟩
  obtain ⟨b, hb⟩ : ∃ b, b = Z.length := ⟨_, rfl⟩
  obtain ⟨c, hc⟩ : ∃ b, b = H.length := ⟨_, rfl⟩
  rw [← ha, ← hb, ← hc] at HM
  rw [← ha] at HL nL ⊢
  rw [← hb] at HZ nZ ⊢
  rw [← hc] at HH nH ⊢
  have HA := Lib.hid ha
  have HB := Lib.hid hb
  have HC := Lib.hid hc
  have HSE := Lib.hid hse
  generalize s.isEmpty = E at *
  clear hM hL hZ hH sZ hS hps hse ha hb hc
  by_cases h1 : kk = 1
  · subst h1
    have hm := HM.out
    simp only [if_true] at hm
    generalize shortB s = A at *
    clear HM
    cases A with
    | false =>
      simp at hm
      subst hm
      have HK1 := Lib.hid ((Kept.allocd w (.cells #[.int .i64 1, .string S, .slice apL a capL, .slice apZ b capZ, .slice apH c capH] 54)).alloc (.cells #[.int .i64 1, .string ⟨#[]⟩, .slice apL a capL, .slice apZ b capZ, .slice apH c capH] 54))
      have HG0 := Lib.hid ((Kept.allocd (w.alloc (.cells #[.int .i64 1, .string S, .slice apL a capL, .slice apZ b capZ, .slice apH c capH] 54)) (.cells #[.int .i64 1, .string ⟨#[]⟩, .slice apL a capL, .slice apZ b capZ, .slice apH c capH] 54)).heap (heap_alloc_new w (.cells #[.int .i64 1, .string S, .slice apL a capL, .slice apZ b capZ, .slice apH c capH] 54)) (fun h => h))
      have HG1 := Lib.hid (heap_alloc_new (w.alloc (.cells #[.int .i64 1, .string S, .slice apL a capL, .slice apZ b capZ, .slice apH c capH] 54)) (.cells #[.int .i64 1, .string ⟨#[]⟩, .slice apL a capL, .slice apZ b capZ, .slice apH c capH] 54))
      rw [World.size_alloc] at HG1
      go_enter Tryd.func59, Tryd.ntmps59
      go_wp2_with fail
      refine (HPS.out _).mono ?_
      rintro e w2 ⟨rfl, rfl⟩
      go_wp2_with fail
      go_ret
      exact ⟨rfl, HK1.out⟩
    | true =>
      simp only [Bool.true_and] at hm
      have HK1 := Lib.hid ((Kept.allocd w (.cells #[.int .i64 1, .string S, .slice apL a capL, .slice apZ b capZ, .slice apH c capH] 54)).alloc (.cells #[.int .i64 1, .string ⟨#[]⟩, .slice apL a capL, .slice apZ b capZ, .slice apH c capH] 54))
      have HG0 := Lib.hid ((Kept.allocd (w.alloc (.cells #[.int .i64 1, .string S, .slice apL a capL, .slice apZ b capZ, .slice apH c capH] 54)) (.cells #[.int .i64 1, .string ⟨#[]⟩, .slice apL a capL, .slice apZ b capZ, .slice apH c capH] 54)).heap (heap_alloc_new w (.cells #[.int .i64 1, .string S, .slice apL a capL, .slice apZ b capZ, .slice apH c capH] 54)) (fun h => h))
      have HG1 := Lib.hid (heap_alloc_new (w.alloc (.cells #[.int .i64 1, .string S, .slice apL a capL, .slice apZ b capZ, .slice apH c capH] 54)) (.cells #[.int .i64 1, .string ⟨#[]⟩, .slice apL a capL, .slice apZ b capZ, .slice apH c capH] 54))
      rw [World.size_alloc] at HG1
      go_enter Tryd.func59, Tryd.ntmps59
      go_wp2_with fail
      refine (HPS.out _).mono ?_
      rintro e w2 ⟨rfl, rfl⟩
      go_wp2_with fail
      subst hm
      go_ret
      refine ⟨?_, HK1.out⟩
      simp
      rw [Bool.eq_iff_iff]
      simp
      omega
  by_cases h2 : kk = 2
  · subst h2
    have hm := HM.out
    simp only [show ¬ ((2 : Int) = 1) by decide, show ¬ ((2 : Int) = 3) by decide, if_false, if_true] at hm
    have HPZ := Lib.hid (fun w => psized a w nL)
    have HPC := Lib.hid (fun w' (hk : Kept NoBlock w w') => pconS (.slice apL a capL) L w' (HL.out.keptNo hk) (by have := HA.out; omega))
    generalize sizedN a = A at *
    generalize L.all shortB = B at *
    clear HM
    cases A with
    | false =>
      simp at hm
      subst hm
      have HK1 := Lib.hid ((Kept.allocd w (.cells #[.int .i64 2, .string S, .slice apL a capL, .slice apZ b capZ, .slice apH c capH] 54)).alloc (.cells #[.int .i64 2, .string S, .slice none 0 0, .slice apZ b capZ, .slice apH c capH] 54))
      have HG0 := Lib.hid ((Kept.allocd (w.alloc (.cells #[.int .i64 2, .string S, .slice apL a capL, .slice apZ b capZ, .slice apH c capH] 54)) (.cells #[.int .i64 2, .string S, .slice none 0 0, .slice apZ b capZ, .slice apH c capH] 54)).heap (heap_alloc_new w (.cells #[.int .i64 2, .string S, .slice apL a capL, .slice apZ b capZ, .slice apH c capH] 54)) (fun h => h))
      have HG1 := Lib.hid (heap_alloc_new (w.alloc (.cells #[.int .i64 2, .string S, .slice apL a capL, .slice apZ b capZ, .slice apH c capH] 54)) (.cells #[.int .i64 2, .string S, .slice none 0 0, .slice apZ b capZ, .slice apH c capH] 54))
      rw [World.size_alloc] at HG1
      go_enter Tryd.func59, Tryd.ntmps59
      go_wp2_with fail
      refine (HPZ.out _).mono ?_
      rintro e w2 ⟨rfl, rfl⟩
      go_wp2_with fail
      go_ret
      exact ⟨rfl, HK1.out⟩
    | true =>
      simp only [Bool.true_and] at hm
      cases B with
      | false =>
        simp at hm
        subst hm
        have HK1 := Lib.hid ((Kept.allocd w (.cells #[.int .i64 2, .string S, .slice apL a capL, .slice apZ b capZ, .slice apH c capH] 54)).alloc (.cells #[.int .i64 2, .string S, .slice none 0 0, .slice apZ b capZ, .slice apH c capH] 54))
        have HG0 := Lib.hid ((Kept.allocd (w.alloc (.cells #[.int .i64 2, .string S, .slice apL a capL, .slice apZ b capZ, .slice apH c capH] 54)) (.cells #[.int .i64 2, .string S, .slice none 0 0, .slice apZ b capZ, .slice apH c capH] 54)).heap (heap_alloc_new w (.cells #[.int .i64 2, .string S, .slice apL a capL, .slice apZ b capZ, .slice apH c capH] 54)) (fun h => h))
        have HG1 := Lib.hid (heap_alloc_new (w.alloc (.cells #[.int .i64 2, .string S, .slice apL a capL, .slice apZ b capZ, .slice apH c capH] 54)) (.cells #[.int .i64 2, .string S, .slice none 0 0, .slice apZ b capZ, .slice apH c capH] 54))
        rw [World.size_alloc] at HG1
        go_enter Tryd.func59, Tryd.ntmps59
        go_wp2_with fail
        refine (HPZ.out _).mono ?_
        rintro e w2 ⟨rfl, rfl⟩
        go_wp2_with fail
        generalize (w.alloc (.cells #[.int .i64 2, .string S, .slice apL a capL, .slice apZ b capZ, .slice apH c capH] 54)).alloc (.cells #[.int .i64 2, .string S, .slice none 0 0, .slice apZ b capZ, .slice apH c capH] 54) = W1 at *
        refine (HPC.out _ HK1.out).mono ?_
        rintro e w2 ⟨rfl, hk⟩
        have HK2 := Lib.hid (HK1.out.trans hk)
        have HG02 := Lib.hid (hk.heap HG0.out (fun h => h))
        have HG12 := Lib.hid (hk.heap HG1.out (fun h => h))
        clear hk
        obtain ⟨a0, a1, a2, a3, a4⟩ := blk5 HG02.out
        obtain ⟨d0, d1, d2, d3, d4⟩ := blk5 HG12.out
        go_wp2_with fail
        go_ret
        exact ⟨rfl, HK2.out⟩
      | true =>
        simp only [Bool.true_and] at hm
        cases E with
        | false =>
          simp at hm
          subst hm
          have HK1 := Lib.hid ((Kept.allocd w (.cells #[.int .i64 2, .string S, .slice apL a capL, .slice apZ b capZ, .slice apH c capH] 54)).alloc (.cells #[.int .i64 2, .string S, .slice none 0 0, .slice apZ b capZ, .slice apH c capH] 54))
          have HG0 := Lib.hid ((Kept.allocd (w.alloc (.cells #[.int .i64 2, .string S, .slice apL a capL, .slice apZ b capZ, .slice apH c capH] 54)) (.cells #[.int .i64 2, .string S, .slice none 0 0, .slice apZ b capZ, .slice apH c capH] 54)).heap (heap_alloc_new w (.cells #[.int .i64 2, .string S, .slice apL a capL, .slice apZ b capZ, .slice apH c capH] 54)) (fun h => h))
          have HG1 := Lib.hid (heap_alloc_new (w.alloc (.cells #[.int .i64 2, .string S, .slice apL a capL, .slice apZ b capZ, .slice apH c capH] 54)) (.cells #[.int .i64 2, .string S, .slice none 0 0, .slice apZ b capZ, .slice apH c capH] 54))
          rw [World.size_alloc] at HG1
          go_enter Tryd.func59, Tryd.ntmps59
          go_wp2_with fail
          refine (HPZ.out _).mono ?_
          rintro e w2 ⟨rfl, rfl⟩
          go_wp2_with fail
          generalize (w.alloc (.cells #[.int .i64 2, .string S, .slice apL a capL, .slice apZ b capZ, .slice apH c capH] 54)).alloc (.cells #[.int .i64 2, .string S, .slice none 0 0, .slice apZ b capZ, .slice apH c capH] 54) = W1 at *
          refine (HPC.out _ HK1.out).mono ?_
          rintro e w2 ⟨rfl, hk⟩
          have HK2 := Lib.hid (HK1.out.trans hk)
          have HG02 := Lib.hid (hk.heap HG0.out (fun h => h))
          have HG12 := Lib.hid (hk.heap HG1.out (fun h => h))
          clear hk
          obtain ⟨a0, a1, a2, a3, a4⟩ := blk5 HG02.out
          obtain ⟨d0, d1, d2, d3, d4⟩ := blk5 HG12.out
          have hse := HSE.out
          go_wp2_with fail
          go_ret
          exact ⟨rfl, HK2.out⟩
        | true =>
          simp only [Bool.true_and] at hm
          have HK1 := Lib.hid ((Kept.allocd w (.cells #[.int .i64 2, .string S, .slice apL a capL, .slice apZ b capZ, .slice apH c capH] 54)).alloc (.cells #[.int .i64 2, .string S, .slice none 0 0, .slice apZ b capZ, .slice apH c capH] 54))
          have HG0 := Lib.hid ((Kept.allocd (w.alloc (.cells #[.int .i64 2, .string S, .slice apL a capL, .slice apZ b capZ, .slice apH c capH] 54)) (.cells #[.int .i64 2, .string S, .slice none 0 0, .slice apZ b capZ, .slice apH c capH] 54)).heap (heap_alloc_new w (.cells #[.int .i64 2, .string S, .slice apL a capL, .slice apZ b capZ, .slice apH c capH] 54)) (fun h => h))
          have HG1 := Lib.hid (heap_alloc_new (w.alloc (.cells #[.int .i64 2, .string S, .slice apL a capL, .slice apZ b capZ, .slice apH c capH] 54)) (.cells #[.int .i64 2, .string S, .slice none 0 0, .slice apZ b capZ, .slice apH c capH] 54))
          rw [World.size_alloc] at HG1
          go_enter Tryd.func59, Tryd.ntmps59
          go_wp2_with fail
          refine (HPZ.out _).mono ?_
          rintro e w2 ⟨rfl, rfl⟩
          go_wp2_with fail
          generalize (w.alloc (.cells #[.int .i64 2, .string S, .slice apL a capL, .slice apZ b capZ, .slice apH c capH] 54)).alloc (.cells #[.int .i64 2, .string S, .slice none 0 0, .slice apZ b capZ, .slice apH c capH] 54) = W1 at *
          refine (HPC.out _ HK1.out).mono ?_
          rintro e w2 ⟨rfl, hk⟩
          have HK2 := Lib.hid (HK1.out.trans hk)
          have HG02 := Lib.hid (hk.heap HG0.out (fun h => h))
          have HG12 := Lib.hid (hk.heap HG1.out (fun h => h))
          clear hk
          obtain ⟨a0, a1, a2, a3, a4⟩ := blk5 HG02.out
          obtain ⟨d0, d1, d2, d3, d4⟩ := blk5 HG12.out
          have hse := HSE.out
          go_wp2_with fail
          subst hm
          go_ret
          refine ⟨?_, HK2.out⟩
          simp
          rw [Bool.eq_iff_iff]
          simp
          omega
  by_cases h3 : kk = 3
  · subst h3
    have hm := HM.out
    simp only [show ¬ ((3 : Int) = 1) by decide, if_false, if_true] at hm
    have HPR := Lib.hid (fun w' (hk : Kept NoBlock w w') => prisS (.slice apL a capL) L w' (HL.out.keptNo hk) (by have := HA.out; omega))
    have HPZ := Lib.hid (fun w => psized a w nL)
    have HPC := Lib.hid (fun w' (hk : Kept NoBlock w w') => pconS (.slice apL a capL) L w' (HL.out.keptNo hk) (by have := HA.out; omega))
    generalize risesBy ltB L = R at *
    generalize sizedN a = A at *
    generalize L.all shortB = B at *
    clear HM
    cases R with
    | false =>
      simp at hm
      subst hm
      have HK1 := Lib.hid ((Kept.allocd w (.cells #[.int .i64 3, .string S, .slice apL a capL, .slice apZ b capZ, .slice apH c capH] 54)).alloc (.cells #[.int .i64 3, .string S, .slice apL a capL, .slice apZ b capZ, .slice apH c capH] 54))
      have HG0 := Lib.hid ((Kept.allocd (w.alloc (.cells #[.int .i64 3, .string S, .slice apL a capL, .slice apZ b capZ, .slice apH c capH] 54)) (.cells #[.int .i64 3, .string S, .slice apL a capL, .slice apZ b capZ, .slice apH c capH] 54)).heap (heap_alloc_new w (.cells #[.int .i64 3, .string S, .slice apL a capL, .slice apZ b capZ, .slice apH c capH] 54)) (fun h => h))
      have HG1 := Lib.hid (heap_alloc_new (w.alloc (.cells #[.int .i64 3, .string S, .slice apL a capL, .slice apZ b capZ, .slice apH c capH] 54)) (.cells #[.int .i64 3, .string S, .slice apL a capL, .slice apZ b capZ, .slice apH c capH] 54))
      rw [World.size_alloc] at HG1
      go_enter Tryd.func59, Tryd.ntmps59
      go_wp2_with fail
      generalize (w.alloc (.cells #[.int .i64 3, .string S, .slice apL a capL, .slice apZ b capZ, .slice apH c capH] 54)).alloc (.cells #[.int .i64 3, .string S, .slice apL a capL, .slice apZ b capZ, .slice apH c capH] 54) = W1 at *
      refine (HPR.out _ HK1.out).mono ?_
      rintro e w2 ⟨rfl, hk⟩
      have HK2 := Lib.hid (HK1.out.trans hk)
      have HG02 := Lib.hid (hk.heap HG0.out (fun h => h))
      have HG12 := Lib.hid (hk.heap HG1.out (fun h => h))
      clear hk
      obtain ⟨a0, a1, a2, a3, a4⟩ := blk5 HG02.out
      obtain ⟨d0, d1, d2, d3, d4⟩ := blk5 HG12.out
      go_wp2_with fail
      go_ret
      exact ⟨rfl, HK2.out⟩
    | true =>
      simp only [Bool.true_and] at hm
      cases A with
      | false =>
        simp at hm
        subst hm
        have HK1 := Lib.hid ((Kept.allocd w (.cells #[.int .i64 3, .string S, .slice apL a capL, .slice apZ b capZ, .slice apH c capH] 54)).alloc (.cells #[.int .i64 3, .string S, .slice apL a capL, .slice apZ b capZ, .slice apH c capH] 54))
        have HG0 := Lib.hid ((Kept.allocd (w.alloc (.cells #[.int .i64 3, .string S, .slice apL a capL, .slice apZ b capZ, .slice apH c capH] 54)) (.cells #[.int .i64 3, .string S, .slice apL a capL, .slice apZ b capZ, .slice apH c capH] 54)).heap (heap_alloc_new w (.cells #[.int .i64 3, .string S, .slice apL a capL, .slice apZ b capZ, .slice apH c capH] 54)) (fun h => h))
        have HG1 := Lib.hid (heap_alloc_new (w.alloc (.cells #[.int .i64 3, .string S, .slice apL a capL, .slice apZ b capZ, .slice apH c capH] 54)) (.cells #[.int .i64 3, .string S, .slice apL a capL, .slice apZ b capZ, .slice apH c capH] 54))
        rw [World.size_alloc] at HG1
        go_enter Tryd.func59, Tryd.ntmps59
        go_wp2_with fail
        generalize (w.alloc (.cells #[.int .i64 3, .string S, .slice apL a capL, .slice apZ b capZ, .slice apH c capH] 54)).alloc (.cells #[.int .i64 3, .string S, .slice apL a capL, .slice apZ b capZ, .slice apH c capH] 54) = W1 at *
        refine (HPR.out _ HK1.out).mono ?_
        rintro e w2 ⟨rfl, hk⟩
        have HK2 := Lib.hid (HK1.out.trans hk)
        have HG02 := Lib.hid (hk.heap HG0.out (fun h => h))
        have HG12 := Lib.hid (hk.heap HG1.out (fun h => h))
        clear hk
        obtain ⟨a0, a1, a2, a3, a4⟩ := blk5 HG02.out
        obtain ⟨d0, d1, d2, d3, d4⟩ := blk5 HG12.out
        have hz := fun i => frozenB HG12.out i
        have hset := heap_setCell_same HG12.out 2 (.slice none 0 0)
        have HK3 := Lib.hid (HK2.out.setCell (p := ⟨w.heap.size + 1, 2, none⟩) (fun hlt => absurd hlt (by simp)) (.slice none 0 0))
        have HG13 := Lib.hid (show (w2.setCell ⟨w.heap.size + 1, 2, none⟩ (.slice none 0 0)).heap[w.heap.size + 1]? = some (.cells #[.int .i64 3, .string S, .slice none 0 0, .slice apZ b capZ, .slice apH c capH] 54 (0, 0)) from by rw [hset]; simp)
        have HG03 := Lib.hid (heap_set_ne (p := ⟨w.heap.size + 1, 2, none⟩) (v := .slice none 0 0) HG02.out (by simp))
        clear hset
        go_wp2_with fail
        generalize w2.setCell ⟨w.heap.size + 1, 2, none⟩ (.slice none 0 0) = w3 at *
        clear hz a0 a1 a2 a3 a4 d0 d1 d2 d3 d4
        obtain ⟨a0, a1, a2, a3, a4⟩ := blk5 HG03.out
        refine (HPZ.out _).mono ?_
        rintro e w2 ⟨rfl, rfl⟩
        go_wp2_with fail
        obtain ⟨d0, d1, d2, d3, d4⟩ := blk5 HG13.out
        go_wp2_with fail
        go_ret
        exact ⟨rfl, HK3.out⟩
      | true =>
        simp only [Bool.true_and] at hm
        cases B with
        | false =>
          simp at hm
          subst hm
          have HK1 := Lib.hid ((Kept.allocd w (.cells #[.int .i64 3, .string S, .slice apL a capL, .slice apZ b capZ, .slice apH c capH] 54)).alloc (.cells #[.int .i64 3, .string S, .slice apL a capL, .slice apZ b capZ, .slice apH c capH] 54))
          have HG0 := Lib.hid ((Kept.allocd (w.alloc (.cells #[.int .i64 3, .string S, .slice apL a capL, .slice apZ b capZ, .slice apH c capH] 54)) (.cells #[.int .i64 3, .string S, .slice apL a capL, .slice apZ b capZ, .slice apH c capH] 54)).heap (heap_alloc_new w (.cells #[.int .i64 3, .string S, .slice apL a capL, .slice apZ b capZ, .slice apH c capH] 54)) (fun h => h))
          have HG1 := Lib.hid (heap_alloc_new (w.alloc (.cells #[.int .i64 3, .string S, .slice apL a capL, .slice apZ b capZ, .slice apH c capH] 54)) (.cells #[.int .i64 3, .string S, .slice apL a capL, .slice apZ b capZ, .slice apH c capH] 54))
          rw [World.size_alloc] at HG1
          go_enter Tryd.func59, Tryd.ntmps59
          go_wp2_with fail
          generalize (w.alloc (.cells #[.int .i64 3, .string S, .slice apL a capL, .slice apZ b capZ, .slice apH c capH] 54)).alloc (.cells #[.int .i64 3, .string S, .slice apL a capL, .slice apZ b capZ, .slice apH c capH] 54) = W1 at *
          refine (HPR.out _ HK1.out).mono ?_
          rintro e w2 ⟨rfl, hk⟩
          have HK2 := Lib.hid (HK1.out.trans hk)
          have HG02 := Lib.hid (hk.heap HG0.out (fun h => h))
          have HG12 := Lib.hid (hk.heap HG1.out (fun h => h))
          clear hk
          obtain ⟨a0, a1, a2, a3, a4⟩ := blk5 HG02.out
          obtain ⟨d0, d1, d2, d3, d4⟩ := blk5 HG12.out
          have hz := fun i => frozenB HG12.out i
          have hset := heap_setCell_same HG12.out 2 (.slice none 0 0)
          have HK3 := Lib.hid (HK2.out.setCell (p := ⟨w.heap.size + 1, 2, none⟩) (fun hlt => absurd hlt (by simp)) (.slice none 0 0))
          have HG13 := Lib.hid (show (w2.setCell ⟨w.heap.size + 1, 2, none⟩ (.slice none 0 0)).heap[w.heap.size + 1]? = some (.cells #[.int .i64 3, .string S, .slice none 0 0, .slice apZ b capZ, .slice apH c capH] 54 (0, 0)) from by rw [hset]; simp)
          have HG03 := Lib.hid (heap_set_ne (p := ⟨w.heap.size + 1, 2, none⟩) (v := .slice none 0 0) HG02.out (by simp))
          clear hset
          go_wp2_with fail
          generalize w2.setCell ⟨w.heap.size + 1, 2, none⟩ (.slice none 0 0) = w3 at *
          clear hz a0 a1 a2 a3 a4 d0 d1 d2 d3 d4
          obtain ⟨a0, a1, a2, a3, a4⟩ := blk5 HG03.out
          refine (HPZ.out _).mono ?_
          rintro e w2 ⟨rfl, rfl⟩
          go_wp2_with fail
          clear a0 a1 a2 a3 a4
          refine (HPC.out _ HK3.out).mono ?_
          rintro e w4 ⟨rfl, hk⟩
          have HK4 := Lib.hid (HK3.out.trans hk)
          have HG04 := Lib.hid (hk.heap HG03.out (fun h => h))
          have HG14 := Lib.hid (hk.heap HG13.out (fun h => h))
          clear hk
          obtain ⟨a0, a1, a2, a3, a4⟩ := blk5 HG04.out
          obtain ⟨d0, d1, d2, d3, d4⟩ := blk5 HG14.out
          go_wp2_with fail
          go_ret
          exact ⟨rfl, HK4.out⟩
        | true =>
          simp only [Bool.true_and] at hm
          cases E with
          | false =>
            simp at hm
            subst hm
            have HK1 := Lib.hid ((Kept.allocd w (.cells #[.int .i64 3, .string S, .slice apL a capL, .slice apZ b capZ, .slice apH c capH] 54)).alloc (.cells #[.int .i64 3, .string S, .slice apL a capL, .slice apZ b capZ, .slice apH c capH] 54))
            have HG0 := Lib.hid ((Kept.allocd (w.alloc (.cells #[.int .i64 3, .string S, .slice apL a capL, .slice apZ b capZ, .slice apH c capH] 54)) (.cells #[.int .i64 3, .string S, .slice apL a capL, .slice apZ b capZ, .slice apH c capH] 54)).heap (heap_alloc_new w (.cells #[.int .i64 3, .string S, .slice apL a capL, .slice apZ b capZ, .slice apH c capH] 54)) (fun h => h))
            have HG1 := Lib.hid (heap_alloc_new (w.alloc (.cells #[.int .i64 3, .string S, .slice apL a capL, .slice apZ b capZ, .slice apH c capH] 54)) (.cells #[.int .i64 3, .string S, .slice apL a capL, .slice apZ b capZ, .slice apH c capH] 54))
            rw [World.size_alloc] at HG1
            go_enter Tryd.func59, Tryd.ntmps59
            go_wp2_with fail
            generalize (w.alloc (.cells #[.int .i64 3, .string S, .slice apL a capL, .slice apZ b capZ, .slice apH c capH] 54)).alloc (.cells #[.int .i64 3, .string S, .slice apL a capL, .slice apZ b capZ, .slice apH c capH] 54) = W1 at *
            refine (HPR.out _ HK1.out).mono ?_
            rintro e w2 ⟨rfl, hk⟩
            have HK2 := Lib.hid (HK1.out.trans hk)
            have HG02 := Lib.hid (hk.heap HG0.out (fun h => h))
            have HG12 := Lib.hid (hk.heap HG1.out (fun h => h))
            clear hk
            obtain ⟨a0, a1, a2, a3, a4⟩ := blk5 HG02.out
            obtain ⟨d0, d1, d2, d3, d4⟩ := blk5 HG12.out
            have hz := fun i => frozenB HG12.out i
            have hset := heap_setCell_same HG12.out 2 (.slice none 0 0)
            have HK3 := Lib.hid (HK2.out.setCell (p := ⟨w.heap.size + 1, 2, none⟩) (fun hlt => absurd hlt (by simp)) (.slice none 0 0))
            have HG13 := Lib.hid (show (w2.setCell ⟨w.heap.size + 1, 2, none⟩ (.slice none 0 0)).heap[w.heap.size + 1]? = some (.cells #[.int .i64 3, .string S, .slice none 0 0, .slice apZ b capZ, .slice apH c capH] 54 (0, 0)) from by rw [hset]; simp)
            have HG03 := Lib.hid (heap_set_ne (p := ⟨w.heap.size + 1, 2, none⟩) (v := .slice none 0 0) HG02.out (by simp))
            clear hset
            go_wp2_with fail
            generalize w2.setCell ⟨w.heap.size + 1, 2, none⟩ (.slice none 0 0) = w3 at *
            clear hz a0 a1 a2 a3 a4 d0 d1 d2 d3 d4
            obtain ⟨a0, a1, a2, a3, a4⟩ := blk5 HG03.out
            refine (HPZ.out _).mono ?_
            rintro e w2 ⟨rfl, rfl⟩
            go_wp2_with fail
            clear a0 a1 a2 a3 a4
            refine (HPC.out _ HK3.out).mono ?_
            rintro e w4 ⟨rfl, hk⟩
            have HK4 := Lib.hid (HK3.out.trans hk)
            have HG04 := Lib.hid (hk.heap HG03.out (fun h => h))
            have HG14 := Lib.hid (hk.heap HG13.out (fun h => h))
            clear hk
            obtain ⟨a0, a1, a2, a3, a4⟩ := blk5 HG04.out
            obtain ⟨d0, d1, d2, d3, d4⟩ := blk5 HG14.out
            have hse := HSE.out
            go_wp2_with fail
            go_ret
            exact ⟨rfl, HK4.out⟩
          | true =>
            simp only [Bool.true_and] at hm
            have HK1 := Lib.hid ((Kept.allocd w (.cells #[.int .i64 3, .string S, .slice apL a capL, .slice apZ b capZ, .slice apH c capH] 54)).alloc (.cells #[.int .i64 3, .string S, .slice apL a capL, .slice apZ b capZ, .slice apH c capH] 54))
            have HG0 := Lib.hid ((Kept.allocd (w.alloc (.cells #[.int .i64 3, .string S, .slice apL a capL, .slice apZ b capZ, .slice apH c capH] 54)) (.cells #[.int .i64 3, .string S, .slice apL a capL, .slice apZ b capZ, .slice apH c capH] 54)).heap (heap_alloc_new w (.cells #[.int .i64 3, .string S, .slice apL a capL, .slice apZ b capZ, .slice apH c capH] 54)) (fun h => h))
            have HG1 := Lib.hid (heap_alloc_new (w.alloc (.cells #[.int .i64 3, .string S, .slice apL a capL, .slice apZ b capZ, .slice apH c capH] 54)) (.cells #[.int .i64 3, .string S, .slice apL a capL, .slice apZ b capZ, .slice apH c capH] 54))
            rw [World.size_alloc] at HG1
            go_enter Tryd.func59, Tryd.ntmps59
            go_wp2_with fail
            generalize (w.alloc (.cells #[.int .i64 3, .string S, .slice apL a capL, .slice apZ b capZ, .slice apH c capH] 54)).alloc (.cells #[.int .i64 3, .string S, .slice apL a capL, .slice apZ b capZ, .slice apH c capH] 54) = W1 at *
            refine (HPR.out _ HK1.out).mono ?_
            rintro e w2 ⟨rfl, hk⟩
            have HK2 := Lib.hid (HK1.out.trans hk)
            have HG02 := Lib.hid (hk.heap HG0.out (fun h => h))
            have HG12 := Lib.hid (hk.heap HG1.out (fun h => h))
            clear hk
            obtain ⟨a0, a1, a2, a3, a4⟩ := blk5 HG02.out
            obtain ⟨d0, d1, d2, d3, d4⟩ := blk5 HG12.out
            have hz := fun i => frozenB HG12.out i
            have hset := heap_setCell_same HG12.out 2 (.slice none 0 0)
            have HK3 := Lib.hid (HK2.out.setCell (p := ⟨w.heap.size + 1, 2, none⟩) (fun hlt => absurd hlt (by simp)) (.slice none 0 0))
            have HG13 := Lib.hid (show (w2.setCell ⟨w.heap.size + 1, 2, none⟩ (.slice none 0 0)).heap[w.heap.size + 1]? = some (.cells #[.int .i64 3, .string S, .slice none 0 0, .slice apZ b capZ, .slice apH c capH] 54 (0, 0)) from by rw [hset]; simp)
            have HG03 := Lib.hid (heap_set_ne (p := ⟨w.heap.size + 1, 2, none⟩) (v := .slice none 0 0) HG02.out (by simp))
            clear hset
            go_wp2_with fail
            generalize w2.setCell ⟨w.heap.size + 1, 2, none⟩ (.slice none 0 0) = w3 at *
            clear hz a0 a1 a2 a3 a4 d0 d1 d2 d3 d4
            obtain ⟨a0, a1, a2, a3, a4⟩ := blk5 HG03.out
            refine (HPZ.out _).mono ?_
            rintro e w2 ⟨rfl, rfl⟩
            go_wp2_with fail
            clear a0 a1 a2 a3 a4
            refine (HPC.out _ HK3.out).mono ?_
            rintro e w4 ⟨rfl, hk⟩
            have HK4 := Lib.hid (HK3.out.trans hk)
            have HG04 := Lib.hid (hk.heap HG03.out (fun h => h))
            have HG14 := Lib.hid (hk.heap HG13.out (fun h => h))
            clear hk
            obtain ⟨a0, a1, a2, a3, a4⟩ := blk5 HG04.out
            obtain ⟨d0, d1, d2, d3, d4⟩ := blk5 HG14.out
            have hse := HSE.out
            go_wp2_with fail
            subst hm
            go_ret
            refine ⟨?_, HK4.out⟩
            simp
            rw [Bool.eq_iff_iff]
            simp
            omega
  by_cases h4 : kk = 4
  · subst h4
    have hm := HM.out
    simp only [show ¬ ((4 : Int) = 1) by decide, show ¬ ((4 : Int) = 3) by decide, show ¬ ((4 : Int) = 2) by decide, if_false, if_true] at hm
    have HPZ := Lib.hid (fun w => psized b w nZ)
    have HPC := Lib.hid (fun w' (hk : Kept NoBlock w w') => pzset (.slice apZ b capZ) Z w' (HZ.out.kept hk) (by have := HB.out; omega) HSZ.out)
    generalize sizedN b = A at *
    generalize zsetB Z = B at *
    clear HM
    cases A with
    | false =>
      simp at hm
      subst hm
      have HK1 := Lib.hid ((Kept.allocd w (.cells #[.int .i64 4, .string S, .slice apL a capL, .slice apZ b capZ, .slice apH c capH] 54)).alloc (.cells #[.int .i64 4, .string S, .slice apL a capL, .slice none 0 0, .slice apH c capH] 54))
      have HG0 := Lib.hid ((Kept.allocd (w.alloc (.cells #[.int .i64 4, .string S, .slice apL a capL, .slice apZ b capZ, .slice apH c capH] 54)) (.cells #[.int .i64 4, .string S, .slice apL a capL, .slice none 0 0, .slice apH c capH] 54)).heap (heap_alloc_new w (.cells #[.int .i64 4, .string S, .slice apL a capL, .slice apZ b capZ, .slice apH c capH] 54)) (fun h => h))
      have HG1 := Lib.hid (heap_alloc_new (w.alloc (.cells #[.int .i64 4, .string S, .slice apL a capL, .slice apZ b capZ, .slice apH c capH] 54)) (.cells #[.int .i64 4, .string S, .slice apL a capL, .slice none 0 0, .slice apH c capH] 54))
      rw [World.size_alloc] at HG1
      go_enter Tryd.func59, Tryd.ntmps59
      go_wp2_with fail
      refine (HPZ.out _).mono ?_
      rintro e w2 ⟨rfl, rfl⟩
      go_wp2_with fail
      go_ret
      exact ⟨rfl, HK1.out⟩
    | true =>
      simp only [Bool.true_and] at hm
      cases B with
      | false =>
        simp at hm
        subst hm
        have HK1 := Lib.hid ((Kept.allocd w (.cells #[.int .i64 4, .string S, .slice apL a capL, .slice apZ b capZ, .slice apH c capH] 54)).alloc (.cells #[.int .i64 4, .string S, .slice apL a capL, .slice none 0 0, .slice apH c capH] 54))
        have HG0 := Lib.hid ((Kept.allocd (w.alloc (.cells #[.int .i64 4, .string S, .slice apL a capL, .slice apZ b capZ, .slice apH c capH] 54)) (.cells #[.int .i64 4, .string S, .slice apL a capL, .slice none 0 0, .slice apH c capH] 54)).heap (heap_alloc_new w (.cells #[.int .i64 4, .string S, .slice apL a capL, .slice apZ b capZ, .slice apH c capH] 54)) (fun h => h))
        have HG1 := Lib.hid (heap_alloc_new (w.alloc (.cells #[.int .i64 4, .string S, .slice apL a capL, .slice apZ b capZ, .slice apH c capH] 54)) (.cells #[.int .i64 4, .string S, .slice apL a capL, .slice none 0 0, .slice apH c capH] 54))
        rw [World.size_alloc] at HG1
        go_enter Tryd.func59, Tryd.ntmps59
        go_wp2_with fail
        refine (HPZ.out _).mono ?_
        rintro e w2 ⟨rfl, rfl⟩
        go_wp2_with fail
        generalize (w.alloc (.cells #[.int .i64 4, .string S, .slice apL a capL, .slice apZ b capZ, .slice apH c capH] 54)).alloc (.cells #[.int .i64 4, .string S, .slice apL a capL, .slice none 0 0, .slice apH c capH] 54) = W1 at *
        refine (HPC.out _ HK1.out).mono ?_
        rintro e w2 ⟨rfl, hk⟩
        have HK2 := Lib.hid (HK1.out.trans hk)
        have HG02 := Lib.hid (hk.heap HG0.out (fun h => h))
        have HG12 := Lib.hid (hk.heap HG1.out (fun h => h))
        clear hk
        obtain ⟨a0, a1, a2, a3, a4⟩ := blk5 HG02.out
        obtain ⟨d0, d1, d2, d3, d4⟩ := blk5 HG12.out
        go_wp2_with fail
        go_ret
        exact ⟨rfl, HK2.out⟩
      | true =>
        simp only [Bool.true_and] at hm
        cases E with
        | false =>
          simp at hm
          subst hm
          have HK1 := Lib.hid ((Kept.allocd w (.cells #[.int .i64 4, .string S, .slice apL a capL, .slice apZ b capZ, .slice apH c capH] 54)).alloc (.cells #[.int .i64 4, .string S, .slice apL a capL, .slice none 0 0, .slice apH c capH] 54))
          have HG0 := Lib.hid ((Kept.allocd (w.alloc (.cells #[.int .i64 4, .string S, .slice apL a capL, .slice apZ b capZ, .slice apH c capH] 54)) (.cells #[.int .i64 4, .string S, .slice apL a capL, .slice none 0 0, .slice apH c capH] 54)).heap (heap_alloc_new w (.cells #[.int .i64 4, .string S, .slice apL a capL, .slice apZ b capZ, .slice apH c capH] 54)) (fun h => h))
          have HG1 := Lib.hid (heap_alloc_new (w.alloc (.cells #[.int .i64 4, .string S, .slice apL a capL, .slice apZ b capZ, .slice apH c capH] 54)) (.cells #[.int .i64 4, .string S, .slice apL a capL, .slice none 0 0, .slice apH c capH] 54))
          rw [World.size_alloc] at HG1
          go_enter Tryd.func59, Tryd.ntmps59
          go_wp2_with fail
          refine (HPZ.out _).mono ?_
          rintro e w2 ⟨rfl, rfl⟩
          go_wp2_with fail
          generalize (w.alloc (.cells #[.int .i64 4, .string S, .slice apL a capL, .slice apZ b capZ, .slice apH c capH] 54)).alloc (.cells #[.int .i64 4, .string S, .slice apL a capL, .slice none 0 0, .slice apH c capH] 54) = W1 at *
          refine (HPC.out _ HK1.out).mono ?_
          rintro e w2 ⟨rfl, hk⟩
          have HK2 := Lib.hid (HK1.out.trans hk)
          have HG02 := Lib.hid (hk.heap HG0.out (fun h => h))
          have HG12 := Lib.hid (hk.heap HG1.out (fun h => h))
          clear hk
          obtain ⟨a0, a1, a2, a3, a4⟩ := blk5 HG02.out
          obtain ⟨d0, d1, d2, d3, d4⟩ := blk5 HG12.out
          have hse := HSE.out
          go_wp2_with fail
          go_ret
          exact ⟨rfl, HK2.out⟩
        | true =>
          simp only [Bool.true_and] at hm
          have HK1 := Lib.hid ((Kept.allocd w (.cells #[.int .i64 4, .string S, .slice apL a capL, .slice apZ b capZ, .slice apH c capH] 54)).alloc (.cells #[.int .i64 4, .string S, .slice apL a capL, .slice none 0 0, .slice apH c capH] 54))
          have HG0 := Lib.hid ((Kept.allocd (w.alloc (.cells #[.int .i64 4, .string S, .slice apL a capL, .slice apZ b capZ, .slice apH c capH] 54)) (.cells #[.int .i64 4, .string S, .slice apL a capL, .slice none 0 0, .slice apH c capH] 54)).heap (heap_alloc_new w (.cells #[.int .i64 4, .string S, .slice apL a capL, .slice apZ b capZ, .slice apH c capH] 54)) (fun h => h))
          have HG1 := Lib.hid (heap_alloc_new (w.alloc (.cells #[.int .i64 4, .string S, .slice apL a capL, .slice apZ b capZ, .slice apH c capH] 54)) (.cells #[.int .i64 4, .string S, .slice apL a capL, .slice none 0 0, .slice apH c capH] 54))
          rw [World.size_alloc] at HG1
          go_enter Tryd.func59, Tryd.ntmps59
          go_wp2_with fail
          refine (HPZ.out _).mono ?_
          rintro e w2 ⟨rfl, rfl⟩
          go_wp2_with fail
          generalize (w.alloc (.cells #[.int .i64 4, .string S, .slice apL a capL, .slice apZ b capZ, .slice apH c capH] 54)).alloc (.cells #[.int .i64 4, .string S, .slice apL a capL, .slice none 0 0, .slice apH c capH] 54) = W1 at *
          refine (HPC.out _ HK1.out).mono ?_
          rintro e w2 ⟨rfl, hk⟩
          have HK2 := Lib.hid (HK1.out.trans hk)
          have HG02 := Lib.hid (hk.heap HG0.out (fun h => h))
          have HG12 := Lib.hid (hk.heap HG1.out (fun h => h))
          clear hk
          obtain ⟨a0, a1, a2, a3, a4⟩ := blk5 HG02.out
          obtain ⟨d0, d1, d2, d3, d4⟩ := blk5 HG12.out
          have hse := HSE.out
          go_wp2_with fail
          subst hm
          go_ret
          refine ⟨?_, HK2.out⟩
          simp
          rw [Bool.eq_iff_iff]
          simp
          omega
  by_cases h5 : kk = 5
  · subst h5
    have hm := HM.out
    simp only [show ¬ ((5 : Int) = 1) by decide, show ¬ ((5 : Int) = 3) by decide, show ¬ ((5 : Int) = 2) by decide, show ¬ ((5 : Int) = 4) by decide, if_false, if_true] at hm
    have HPZ := Lib.hid (fun w => psized c w nH)
    have HPR := Lib.hid (fun w' (hk : Kept NoBlock w w') => prisF (.slice apH c capH) H w' (HH.out.kept hk) (by have := HC.out; omega))
    have HPC := Lib.hid (fun w' (hk : Kept NoBlock w w') => pconF (.slice apH c capH) H w' (HH.out.kept hk) (by have := HC.out; omega))
    generalize sizedN c = A at *
    generalize risesBy ltF H = R at *
    generalize H.all okF = B at *
    clear HM
    cases A with
    | false =>
      simp at hm
      subst hm
      have HK1 := Lib.hid ((Kept.allocd w (.cells #[.int .i64 5, .string S, .slice apL a capL, .slice apZ b capZ, .slice apH c capH] 54)).alloc (.cells #[.int .i64 5, .string S, .slice apL a capL, .slice apZ b capZ, .slice none 0 0] 54))
      have HG0 := Lib.hid ((Kept.allocd (w.alloc (.cells #[.int .i64 5, .string S, .slice apL a capL, .slice apZ b capZ, .slice apH c capH] 54)) (.cells #[.int .i64 5, .string S, .slice apL a capL, .slice apZ b capZ, .slice none 0 0] 54)).heap (heap_alloc_new w (.cells #[.int .i64 5, .string S, .slice apL a capL, .slice apZ b capZ, .slice apH c capH] 54)) (fun h => h))
      have HG1 := Lib.hid (heap_alloc_new (w.alloc (.cells #[.int .i64 5, .string S, .slice apL a capL, .slice apZ b capZ, .slice apH c capH] 54)) (.cells #[.int .i64 5, .string S, .slice apL a capL, .slice apZ b capZ, .slice none 0 0] 54))
      rw [World.size_alloc] at HG1
      go_enter Tryd.func59, Tryd.ntmps59
      go_wp2_with fail
      refine (HPZ.out _).mono ?_
      rintro e w2 ⟨rfl, rfl⟩
      go_wp2_with fail
      go_ret
      exact ⟨rfl, HK1.out⟩
    | true =>
      simp only [Bool.true_and] at hm
      cases R with
      | false =>
        simp at hm
        subst hm
        have HK1 := Lib.hid ((Kept.allocd w (.cells #[.int .i64 5, .string S, .slice apL a capL, .slice apZ b capZ, .slice apH c capH] 54)).alloc (.cells #[.int .i64 5, .string S, .slice apL a capL, .slice apZ b capZ, .slice none 0 0] 54))
        have HG0 := Lib.hid ((Kept.allocd (w.alloc (.cells #[.int .i64 5, .string S, .slice apL a capL, .slice apZ b capZ, .slice apH c capH] 54)) (.cells #[.int .i64 5, .string S, .slice apL a capL, .slice apZ b capZ, .slice none 0 0] 54)).heap (heap_alloc_new w (.cells #[.int .i64 5, .string S, .slice apL a capL, .slice apZ b capZ, .slice apH c capH] 54)) (fun h => h))
        have HG1 := Lib.hid (heap_alloc_new (w.alloc (.cells #[.int .i64 5, .string S, .slice apL a capL, .slice apZ b capZ, .slice apH c capH] 54)) (.cells #[.int .i64 5, .string S, .slice apL a capL, .slice apZ b capZ, .slice none 0 0] 54))
        rw [World.size_alloc] at HG1
        go_enter Tryd.func59, Tryd.ntmps59
        go_wp2_with fail
        refine (HPZ.out _).mono ?_
        rintro e w2 ⟨rfl, rfl⟩
        go_wp2_with fail
        generalize (w.alloc (.cells #[.int .i64 5, .string S, .slice apL a capL, .slice apZ b capZ, .slice apH c capH] 54)).alloc (.cells #[.int .i64 5, .string S, .slice apL a capL, .slice apZ b capZ, .slice none 0 0] 54) = W1 at *
        refine (HPR.out _ HK1.out).mono ?_
        rintro e w2 ⟨rfl, hk⟩
        have HK2 := Lib.hid (HK1.out.trans hk)
        have HG02 := Lib.hid (hk.heap HG0.out (fun h => h))
        have HG12 := Lib.hid (hk.heap HG1.out (fun h => h))
        clear hk
        obtain ⟨a0, a1, a2, a3, a4⟩ := blk5 HG02.out
        obtain ⟨d0, d1, d2, d3, d4⟩ := blk5 HG12.out
        go_wp2_with fail
        go_ret
        exact ⟨rfl, HK2.out⟩
      | true =>
        simp only [Bool.true_and] at hm
        cases B with
        | false =>
          simp at hm
          subst hm
          have HK1 := Lib.hid ((Kept.allocd w (.cells #[.int .i64 5, .string S, .slice apL a capL, .slice apZ b capZ, .slice apH c capH] 54)).alloc (.cells #[.int .i64 5, .string S, .slice apL a capL, .slice apZ b capZ, .slice none 0 0] 54))
          have HG0 := Lib.hid ((Kept.allocd (w.alloc (.cells #[.int .i64 5, .string S, .slice apL a capL, .slice apZ b capZ, .slice apH c capH] 54)) (.cells #[.int .i64 5, .string S, .slice apL a capL, .slice apZ b capZ, .slice none 0 0] 54)).heap (heap_alloc_new w (.cells #[.int .i64 5, .string S, .slice apL a capL, .slice apZ b capZ, .slice apH c capH] 54)) (fun h => h))
          have HG1 := Lib.hid (heap_alloc_new (w.alloc (.cells #[.int .i64 5, .string S, .slice apL a capL, .slice apZ b capZ, .slice apH c capH] 54)) (.cells #[.int .i64 5, .string S, .slice apL a capL, .slice apZ b capZ, .slice none 0 0] 54))
          rw [World.size_alloc] at HG1
          go_enter Tryd.func59, Tryd.ntmps59
          go_wp2_with fail
          refine (HPZ.out _).mono ?_
          rintro e w2 ⟨rfl, rfl⟩
          go_wp2_with fail
          generalize (w.alloc (.cells #[.int .i64 5, .string S, .slice apL a capL, .slice apZ b capZ, .slice apH c capH] 54)).alloc (.cells #[.int .i64 5, .string S, .slice apL a capL, .slice apZ b capZ, .slice none 0 0] 54) = W1 at *
          refine (HPR.out _ HK1.out).mono ?_
          rintro e w2 ⟨rfl, hk⟩
          have HK2 := Lib.hid (HK1.out.trans hk)
          have HG02 := Lib.hid (hk.heap HG0.out (fun h => h))
          have HG12 := Lib.hid (hk.heap HG1.out (fun h => h))
          clear hk
          obtain ⟨a0, a1, a2, a3, a4⟩ := blk5 HG02.out
          obtain ⟨d0, d1, d2, d3, d4⟩ := blk5 HG12.out
          go_wp2_with fail
          clear a0 a1 a2 a3 a4 d0 d1 d2 d3 d4
          refine (HPC.out _ HK2.out).mono ?_
          rintro e w3 ⟨rfl, hk⟩
          have HK3 := Lib.hid (HK2.out.trans hk)
          have HG03 := Lib.hid (hk.heap HG02.out (fun h => h))
          have HG13 := Lib.hid (hk.heap HG12.out (fun h => h))
          clear hk
          obtain ⟨a0, a1, a2, a3, a4⟩ := blk5 HG03.out
          obtain ⟨d0, d1, d2, d3, d4⟩ := blk5 HG13.out
          go_wp2_with fail
          go_ret
          exact ⟨rfl, HK3.out⟩
        | true =>
          simp only [Bool.true_and] at hm
          cases E with
          | false =>
            simp at hm
            subst hm
            have HK1 := Lib.hid ((Kept.allocd w (.cells #[.int .i64 5, .string S, .slice apL a capL, .slice apZ b capZ, .slice apH c capH] 54)).alloc (.cells #[.int .i64 5, .string S, .slice apL a capL, .slice apZ b capZ, .slice none 0 0] 54))
            have HG0 := Lib.hid ((Kept.allocd (w.alloc (.cells #[.int .i64 5, .string S, .slice apL a capL, .slice apZ b capZ, .slice apH c capH] 54)) (.cells #[.int .i64 5, .string S, .slice apL a capL, .slice apZ b capZ, .slice none 0 0] 54)).heap (heap_alloc_new w (.cells #[.int .i64 5, .string S, .slice apL a capL, .slice apZ b capZ, .slice apH c capH] 54)) (fun h => h))
            have HG1 := Lib.hid (heap_alloc_new (w.alloc (.cells #[.int .i64 5, .string S, .slice apL a capL, .slice apZ b capZ, .slice apH c capH] 54)) (.cells #[.int .i64 5, .string S, .slice apL a capL, .slice apZ b capZ, .slice none 0 0] 54))
            rw [World.size_alloc] at HG1
            go_enter Tryd.func59, Tryd.ntmps59
            go_wp2_with fail
            refine (HPZ.out _).mono ?_
            rintro e w2 ⟨rfl, rfl⟩
            go_wp2_with fail
            generalize (w.alloc (.cells #[.int .i64 5, .string S, .slice apL a capL, .slice apZ b capZ, .slice apH c capH] 54)).alloc (.cells #[.int .i64 5, .string S, .slice apL a capL, .slice apZ b capZ, .slice none 0 0] 54) = W1 at *
            refine (HPR.out _ HK1.out).mono ?_
            rintro e w2 ⟨rfl, hk⟩
            have HK2 := Lib.hid (HK1.out.trans hk)
            have HG02 := Lib.hid (hk.heap HG0.out (fun h => h))
            have HG12 := Lib.hid (hk.heap HG1.out (fun h => h))
            clear hk
            obtain ⟨a0, a1, a2, a3, a4⟩ := blk5 HG02.out
            obtain ⟨d0, d1, d2, d3, d4⟩ := blk5 HG12.out
            go_wp2_with fail
            clear a0 a1 a2 a3 a4 d0 d1 d2 d3 d4
            refine (HPC.out _ HK2.out).mono ?_
            rintro e w3 ⟨rfl, hk⟩
            have HK3 := Lib.hid (HK2.out.trans hk)
            have HG03 := Lib.hid (hk.heap HG02.out (fun h => h))
            have HG13 := Lib.hid (hk.heap HG12.out (fun h => h))
            clear hk
            obtain ⟨a0, a1, a2, a3, a4⟩ := blk5 HG03.out
            obtain ⟨d0, d1, d2, d3, d4⟩ := blk5 HG13.out
            have hse := HSE.out
            go_wp2_with fail
            go_ret
            exact ⟨rfl, HK3.out⟩
          | true =>
            simp only [Bool.true_and] at hm
            have HK1 := Lib.hid ((Kept.allocd w (.cells #[.int .i64 5, .string S, .slice apL a capL, .slice apZ b capZ, .slice apH c capH] 54)).alloc (.cells #[.int .i64 5, .string S, .slice apL a capL, .slice apZ b capZ, .slice none 0 0] 54))
            have HG0 := Lib.hid ((Kept.allocd (w.alloc (.cells #[.int .i64 5, .string S, .slice apL a capL, .slice apZ b capZ, .slice apH c capH] 54)) (.cells #[.int .i64 5, .string S, .slice apL a capL, .slice apZ b capZ, .slice none 0 0] 54)).heap (heap_alloc_new w (.cells #[.int .i64 5, .string S, .slice apL a capL, .slice apZ b capZ, .slice apH c capH] 54)) (fun h => h))
            have HG1 := Lib.hid (heap_alloc_new (w.alloc (.cells #[.int .i64 5, .string S, .slice apL a capL, .slice apZ b capZ, .slice apH c capH] 54)) (.cells #[.int .i64 5, .string S, .slice apL a capL, .slice apZ b capZ, .slice none 0 0] 54))
            rw [World.size_alloc] at HG1
            go_enter Tryd.func59, Tryd.ntmps59
            go_wp2_with fail
            refine (HPZ.out _).mono ?_
            rintro e w2 ⟨rfl, rfl⟩
            go_wp2_with fail
            generalize (w.alloc (.cells #[.int .i64 5, .string S, .slice apL a capL, .slice apZ b capZ, .slice apH c capH] 54)).alloc (.cells #[.int .i64 5, .string S, .slice apL a capL, .slice apZ b capZ, .slice none 0 0] 54) = W1 at *
            refine (HPR.out _ HK1.out).mono ?_
            rintro e w2 ⟨rfl, hk⟩
            have HK2 := Lib.hid (HK1.out.trans hk)
            have HG02 := Lib.hid (hk.heap HG0.out (fun h => h))
            have HG12 := Lib.hid (hk.heap HG1.out (fun h => h))
            clear hk
            obtain ⟨a0, a1, a2, a3, a4⟩ := blk5 HG02.out
            obtain ⟨d0, d1, d2, d3, d4⟩ := blk5 HG12.out
            go_wp2_with fail
            clear a0 a1 a2 a3 a4 d0 d1 d2 d3 d4
            refine (HPC.out _ HK2.out).mono ?_
            rintro e w3 ⟨rfl, hk⟩
            have HK3 := Lib.hid (HK2.out.trans hk)
            have HG03 := Lib.hid (hk.heap HG02.out (fun h => h))
            have HG13 := Lib.hid (hk.heap HG12.out (fun h => h))
            clear hk
            obtain ⟨a0, a1, a2, a3, a4⟩ := blk5 HG03.out
            obtain ⟨d0, d1, d2, d3, d4⟩ := blk5 HG13.out
            have hse := HSE.out
            go_wp2_with fail
            subst hm
            go_ret
            refine ⟨?_, HK3.out⟩
            simp
            rw [Bool.eq_iff_iff]
            simp
            omega
  have hm := HM.out
  simp only [h1, h2, h3, h4, h5, if_false] at hm
  subst hm
  have HK1 := Lib.hid ((Kept.allocd w (.cells #[.int .i64 kk, .string S, .slice apL a capL, .slice apZ b capZ, .slice apH c capH] 54)).alloc (.cells #[.int .i64 kk, .string S, .slice apL a capL, .slice apZ b capZ, .slice apH c capH] 54))
  have HG0 := Lib.hid ((Kept.allocd (w.alloc (.cells #[.int .i64 kk, .string S, .slice apL a capL, .slice apZ b capZ, .slice apH c capH] 54)) (.cells #[.int .i64 kk, .string S, .slice apL a capL, .slice apZ b capZ, .slice apH c capH] 54)).heap (heap_alloc_new w (.cells #[.int .i64 kk, .string S, .slice apL a capL, .slice apZ b capZ, .slice apH c capH] 54)) (fun h => h))
  have HG1 := Lib.hid (heap_alloc_new (w.alloc (.cells #[.int .i64 kk, .string S, .slice apL a capL, .slice apZ b capZ, .slice apH c capH] 54)) (.cells #[.int .i64 kk, .string S, .slice apL a capL, .slice apZ b capZ, .slice apH c capH] 54))
  rw [World.size_alloc] at HG1
  go_enter Tryd.func59, Tryd.ntmps59
  go_wp2_with fail
  go_ret
  exact ⟨rfl, HK1.out⟩
end Go.Proofs.YtfhlhpknobkplaaDoor
namespace Go.Proofs.YtfhlhpknobkplaaDoor
open Go.RowKit
attribute [local go_sem] fold_part fold_some fold_some' partAt_zero

/-- Sizes that a store's rows have. -/
def SizedM (e : Ent) : Prop := e.v.L.length ≤ 70000000 ∧ e.v.Z.length ≤ 70000000 ∧ e.v.H.length ≤ 70000000 ∧ ∀ z ∈ e.v.Z, z.1.length ≤ 1000000000000000
def okE (m : EntM) : Bool := entOk m.e

set_option maxRecDepth 100000 in
theorem pentry (m : EntM) (w : World) (hs : SubsV w m) (hz : SizedM m.e) : Calls Tryd.prog 49 #[entA m] w fun e w' => e = .returned (.bool (entOk m.e)) ∧ Kept NoBlock w w' := by
  obtain ⟨⟨key, ⟨kk, s, L, Z, H⟩, till⟩, vL, vZ, vH⟩ := m
  obtain ⟨hL, hZ, hH⟩ := hs
  obtain ⟨nL, nZ, nH, sZ⟩ := hz
  simp only at hL hZ hH nL nZ nH sZ
  unfold entA
  simp only
  have hpr := fun w' (hk : Kept NoBlock w w') => pright kk s L Z H vL vZ vH w' (hL.keptNo hk) (hZ.kept hk) (hH.kept hk) nL nZ nH sZ
  have hps := pshort key
  obtain ⟨apL, capL, rfl, _⟩ := hL.parts
  obtain ⟨apZ, capZ, rfl, _⟩ := hZ.parts
  obtain ⟨apH, capH, rfl, _⟩ := hH.parts
  rw [List.length_map] at hpr ⊢
  generalize hM : entOk ⟨key, ⟨kk, s, L, Z, H⟩, till⟩ = M
  unfold entOk at hM
  simp only at hM
  generalize valOk ⟨kk, s, L, Z, H⟩ = V at *
  have HPR := Lib.hid hpr
  unfold strV at HPR hps ⊢
  generalize L.length = a at *
  generalize Z.length = b at *
  generalize H.length = c at *
  have HK1 := Lib.hid (Kept.allocd w (.cells #[.string ⟨key.toArray⟩, .int .i64 kk, .string ⟨s.toArray⟩, .slice apL a capL, .slice apZ b capZ, .slice apH c capH, .int .i64 till] 56))
  cases hsh : shortB key with
  | false =>
    rw [hsh] at hM hps
    rw [Bool.false_and, Bool.false_and] at hM
    subst hM
    have HPS := Lib.hid hps
    clear hsh hps hpr hL hZ hH nL nZ nH sZ
    go_enter Tryd.func49, Tryd.ntmps49
    go_wp2_with fail
    refine (HPS.out _).mono ?_
    rintro e w2 ⟨rfl, rfl⟩
    go_wp2_with fail
    go_ret
    exact ⟨rfl, HK1.out⟩
  | true =>
    rw [hsh] at hM hps
    rw [Bool.true_and] at hM
    have HPS := Lib.hid hps
    clear hsh hps hpr hL hZ hH nL nZ nH sZ
    by_cases h1 : -1 ≤ till
    · by_cases h2 : till ≤ 1099511627776
      · have hM2 : V = M := by rw [← hM]; simp [h1, h2]
        subst hM2
        clear hM
        go_enter Tryd.func49, Tryd.ntmps49
        go_wp2_with fail
        refine (HPS.out _).mono ?_
        rintro e w2 ⟨rfl, rfl⟩
        go_wp2_with fail
        refine (HPR.out _ HK1.out).mono ?_
        rintro e w2 ⟨rfl, hk⟩
        have HK2 := Lib.hid (HK1.out.trans hk)
        clear hk
        go_wp2_with fail
        go_ret
        exact ⟨rfl, HK2.out⟩
      · have hM2 : M = false := by rw [← hM]; simp [h2]
        subst hM2
        clear hM
        go_enter Tryd.func49, Tryd.ntmps49
        go_wp2_with fail
        refine (HPS.out _).mono ?_
        rintro e w2 ⟨rfl, rfl⟩
        go_wp2_with fail
        go_ret
        exact ⟨rfl, HK1.out⟩
    · have hM2 : M = false := by rw [← hM]; simp [h1]
      subst hM2
      clear hM
      go_enter Tryd.func49, Tryd.ntmps49
      go_wp2_with fail
      refine (HPS.out _).mono ?_
      rintro e w2 ⟨rfl, rfl⟩
      go_wp2_with fail
      go_ret
      exact ⟨rfl, HK1.out⟩

set_option maxRecDepth 100000 in
theorem pcheck1 (m : EntM) (w : World) (hs : SubsV w m) (hz : SizedM m.e) : Calls Tryd.prog 48 #[entA m] w fun e w' => e = .returned (.bool (!okE m)) ∧ Kept NoBlock w w' := by
  have hpe := fun w' (hk : Kept NoBlock w w') => pentry m w' (hs.kept hk) hz
  obtain ⟨⟨key, ⟨kk, s, L, Z, H⟩, till⟩, vL, vZ, vH⟩ := m
  obtain ⟨hL, hZ, hH⟩ := hs
  simp only at hL hZ hH
  unfold okE
  unfold entA at hpe ⊢
  simp only at hpe ⊢
  obtain ⟨apL, capL, rfl, _⟩ := hL.parts
  obtain ⟨apZ, capZ, rfl, _⟩ := hZ.parts
  obtain ⟨apH, capH, rfl, _⟩ := hH.parts
  rw [List.length_map] at hpe ⊢
  generalize entOk ⟨key, ⟨kk, s, L, Z, H⟩, till⟩ = M at *
  have HPE := Lib.hid hpe
  unfold strV at HPE ⊢
  clear hL hZ hH hpe hz
  generalize L.length = a at *
  generalize Z.length = b at *
  generalize H.length = c at *
  have HK1 := Lib.hid (Kept.allocd w (.cells #[.string ⟨key.toArray⟩, .int .i64 kk, .string ⟨s.toArray⟩, .slice apL a capL, .slice apZ b capZ, .slice apH c capH, .int .i64 till] 56))
  go_enter Tryd.func48, Tryd.ntmps48
  go_wp2_with fail
  refine (HPE.out _ HK1.out).mono ?_
  rintro e w2 ⟨rfl, hk⟩
  have HK2 := Lib.hid (HK1.out.trans hk)
  clear hk
  go_wp2_with fail
  go_ret
  exact ⟨rfl, HK2.out⟩
end Go.Proofs.YtfhlhpknobkplaaDoor
namespace Go.Proofs.YtfhlhpknobkplaaDoor
open Go.RowKit
attribute [local go_sem] fold_part fold_some fold_some' partAt_zero

set_option maxRecDepth 100000 in
theorem pindE (v : Value) (xs : List EntM) (w : World) (h : RowK 7 eCells w v xs) (hn : xs.length ≤ 70000000) (hs : ∀ m ∈ xs, SubsV w m) (hz : ∀ m ∈ xs, SizedM m.e) :
    Calls Tryd.prog 57 #[v, .func (.func 48) #[] #[]] w fun e w' => (∃ x : Int, e = .returned (.int .i64 x) ∧ decide (0 ≤ x) = !(xs.all okE)) ∧ Kept NoBlock w w' := by
  have hrow := h
  obtain ⟨ap, cap, rfl, hcp⟩ := hrow.parts
  generalize hM : xs.all okE = M
  have HM := Lib.hid hM
  have HROW := Lib.hid hrow
  obtain ⟨n, hnn⟩ : ∃ n, n = xs.length := ⟨_, rfl⟩
  rw [← hnn] at hn HROW ⊢
  have HN := Lib.hid hnn
  have HSUB := Lib.hid hs
  have HSIZ := Lib.hid hz
  clear hs hz
  clear hM hrow hnn hcp h
  go_enter Tryd.func57, Tryd.ntmps57
  go_wp2_with fail
  go_loopw [8] (fun vi wr => ∃ i : Nat, vi = .int .i64 i ∧ i ≤ n ∧ (xs.take i).all okE = true ∧ Kept NoBlock w wr) (fun vi _ => n - (intOf vi).toNat)
  case atStart => exact ⟨0, rfl, Nat.zero_le _, rfl, Kept.refl _ _⟩
  case round =>
    obtain ⟨i, rfl, hi, hr, hk⟩ := hrel
    have HR := Lib.hid hr
    have HK := Lib.hid hk
    clear hr hk
    by_cases hlt : i < n
    · have hil : i < xs.length := by have := HN.out; omega
      obtain ⟨a, ha⟩ : ∃ a, xs[i]? = some a := ⟨xs[i], List.getElem?_eq_getElem hil⟩
      obtain ⟨ad, rfl, a0, a1, a2, a3, a4, a5, a6⟩ := RowK.at7 (RowK.kept HROW.out HK.out) ha
      have HA := Lib.hid ha
      clear ha hil
      go_wp2_with fail
      clear a0 a1 a2 a3 a4 a5 a6
      refine (pcheck1 a _ ((HSUB.out _ (List.mem_of_getElem? HA.out)).kept HK.out) (HSIZ.out _ (List.mem_of_getElem? HA.out))).mono ?_
      rintro e w2 ⟨rfl, hk2⟩
      have HK2 := Lib.hid (HK.out.trans hk2)
      clear hk2
      cases hl : okE a with
      | true =>
        have HR3 := Lib.hid (all_next HR.out HA.out hl)
        clear hl
        go_wp2_with fail
        go_roundw
        case rel => exact ⟨i + 1, by go_num, by omega, HR3.out, HK2.out⟩
        case measure => simp [intOf]; omega
      | false =>
        have hfin : M = false := by rw [← HM.out]; exact all_not HA.out hl
        subst hfin
        clear hl
        go_wp2_with fail
        go_ret
        refine ⟨⟨i, rfl, ?_⟩, HK2.out⟩
        simp
    · have hfin : M = true := by
        rw [← HM.out]
        have := HR.out
        rw [List.take_of_length_le (by have := HN.out; omega)] at this
        exact this
      subst hfin
      go_wp2_with fail
      go_ret
      exact ⟨⟨-1, rfl, rfl⟩, HK.out⟩
set_option maxRecDepth 100000 in
theorem pconE (v : Value) (xs : List EntM) (w : World) (h : RowK 7 eCells w v xs) (hn : xs.length ≤ 70000000) (hs : ∀ m ∈ xs, SubsV w m) (hz : ∀ m ∈ xs, SizedM m.e) :
    Calls Tryd.prog 47 #[v, .func (.func 48) #[] #[]] w fun e w' => e = .returned (.bool (!(xs.all okE))) ∧ Kept NoBlock w w' := by
  have hin := pindE v xs w h hn hs hz
  generalize (!(xs.all okE)) = M at *
  have HIN := Lib.hid hin
  clear hin h hn hs hz
  go_enter Tryd.func47, Tryd.ntmps47
  go_wp2_with fail
  refine HIN.out.mono ?_
  rintro e w2 ⟨⟨x, rfl, hx⟩, hk2⟩
  have HK2 := Lib.hid hk2
  clear hk2
  go_wp2_with fail
  go_ret
  exact ⟨rfl, HK2.out⟩

set_option maxRecDepth 100000 in
theorem pcheck (v : Value) (ms : List EntM) (w : World) (h : EntsV w v ms) (hn : ms.length ≤ 70000000) (hz : ∀ m ∈ ms, SizedM m.e) :
    Calls Tryd.prog 33 #[v] w fun e w' => e = .returned (.int .i64 (checkE (ms.map (·.e)))) ∧ Kept NoBlock w w' := by
  have hpr := prisE v ms w h.1 hn
  have hpc := fun w' (hk : Kept NoBlock w w') => pconE v ms w' (h.1.kept hk) hn (fun m hm => (h.2 m hm).kept hk) hz
  obtain ⟨ap, cap, rfl, _⟩ := h.1.parts
  have hr : risesBy ltE ms = risesBy ltB ((ms.map (·.e)).map (·.key)) := by
    have := rises_map ltB (fun m : EntM => m.e.key) ms
    rw [List.map_map]
    exact this
  have ha : ms.all okE = (ms.map (·.e)).all entOk := by rw [List.all_map]; rfl
  generalize hM : checkE (ms.map (·.e)) = M
  unfold checkE at hM
  rw [List.length_map] at hM
  rw [hr] at hpr
  rw [ha] at hpc
  generalize risesBy ltB ((ms.map (·.e)).map (·.key)) = R at *
  generalize (ms.map (·.e)).all entOk = A at *
  generalize ms.length = n at *
  have HPR := Lib.hid hpr
  have HPC := Lib.hid hpc
  have HM := Lib.hid hM
  clear h hpr hpc hM hr ha
  by_cases hn2 : 65536 < n
  · obtain rfl : 3 = M := by have := HM.out; rw [if_pos hn2] at this; exact this
    go_enter Tryd.func33, Tryd.ntmps33
    go_wp2_with fail
    go_ret
    exact ⟨rfl, Kept.refl _ _⟩
  · have hm := HM.out
    rw [if_neg hn2] at hm
    clear HM
    cases R with
    | false =>
      simp at hm
      subst hm
      go_enter Tryd.func33, Tryd.ntmps33
      go_wp2_with fail
      refine HPR.out.mono ?_
      rintro e w2 ⟨rfl, hk⟩
      have HK2 := Lib.hid hk
      clear hk
      go_wp2_with fail
      go_ret
      exact ⟨rfl, HK2.out⟩
    | true =>
      cases A with
      | false =>
        simp at hm
        subst hm
        go_enter Tryd.func33, Tryd.ntmps33
        go_wp2_with fail
        refine HPR.out.mono ?_
        rintro e w2 ⟨rfl, hk⟩
        have HK2 := Lib.hid hk
        clear hk
        go_wp2_with fail
        refine (HPC.out _ HK2.out).mono ?_
        rintro e w3 ⟨rfl, hk⟩
        have HK3 := Lib.hid (HK2.out.trans hk)
        clear hk
        go_wp2_with fail
        go_ret
        exact ⟨rfl, HK3.out⟩
      | true =>
        simp at hm
        subst hm
        go_enter Tryd.func33, Tryd.ntmps33
        go_wp2_with fail
        refine HPR.out.mono ?_
        rintro e w2 ⟨rfl, hk⟩
        have HK2 := Lib.hid hk
        clear hk
        go_wp2_with fail
        refine (HPC.out _ HK2.out).mono ?_
        rintro e w3 ⟨rfl, hk⟩
        have HK3 := Lib.hid (HK2.out.trans hk)
        clear hk
        go_wp2_with fail
        go_ret
        exact ⟨rfl, HK3.out⟩
end Go.Proofs.YtfhlhpknobkplaaDoor
namespace Go.Proofs.YtfhlhpknobkplaaDoor
open Go.RowKit
attribute [local go_sem] fold_part fold_some fold_some' partAt_zero

theorem wpFloat_ex {P : Program} {ops : Array Oper} {Cl : World → Prop} {K : Act → Prop} {o : Oper} {rest : List Oper} {a : Act} (hg : o.guard = none) (h : ∃ v, (∀ w, Cl w → stillV P w v ((execOp a.eval o).run P w)) ∧ K (a.put o.dst v)) : wpFloat P ops Cl K (o :: rest) a := by
  obtain ⟨v, h1, h2⟩ := h
  exact wpFloat_step v hg h1 h2

/-- What an encoder leaves: bytes of its own; or why there are none. -/
def EncEnd (w : World) (r : Except Int Bs) (e : Ending) (w' : World) : Prop :=
  match r with
  | .ok b => ∃ v, e = .returned (.tuple #[v, .int .i64 0]) ∧ OwnZ w' w.heap.size v b ∧ Kept NoBlock w w'
  | .error c => e = .returned (.tuple #[.slice none 0 0, .int .i64 c]) ∧ Kept NoBlock w w'
theorem sum_one (v : Value) (X : Bs) : 0xffffffff ^^^ sumL 0xffffffff [(v, X)] = sumB X := by unfold sumL sumB; rfl

set_option maxRecDepth 100000 in
set_option maxHeartbeats 1600000 in
theorem pEncode (w : World) (id sec : Nat) (off fork : Int) (v : Value) (ms : List EntM) (hV : Vs w) (h : EntsV w v ms) (hid : id < 18446744073709551616) (hn : ms.length ≤ 70000000) (hz : ∀ m ∈ ms, SizedM m.e)
    (hl : checkE (ms.map (·.e)) = 0 → (writtenB id off (ms.map (·.e))).length + 4 ≤ 67108864) :
    Calls Tryd.prog 19 #[.agg #[.int .u64 id, .int .i64 off, .int .u64 sec, .int .i64 fork], v] w (EncEnd w (encB id off (ms.map (·.e)))) := by
  have hch := fun w' (hk : Kept NoBlock w w') => pcheck v ms w' (h.kept hk) hn hz
  have hwr := fun w' (hk : Kept NoBlock w w') (hc : checkE (ms.map (·.e)) = 0) => pwritten w' id sec off fork v ms (h.kept hk) hid (fun m hm => valOk_kind (by
    have := (checkE_ok hc).2 m.e (List.mem_map_of_mem hm)
    unfold entOk at this
    simp only [Bool.and_eq_true] at this
    exact this.2)) (by have := hl hc; omega)
  obtain ⟨ap, cap, rfl, _⟩ := h.1.parts
  generalize hR : encB id off (ms.map (·.e)) = R
  have hR2 := hR
  unfold encB at hR2
  generalize ms.length = n at *
  generalize hC : checkE (ms.map (·.e)) = C at *
  generalize hX : writtenB id off (ms.map (·.e)) = X at *
  have HCH := Lib.hid hch
  have HWR := Lib.hid hwr
  have HL := Lib.hid hl
  have HV := Lib.hid hV
  have HK1 := Lib.hid (Kept.allocd w (.cells #[.int .u64 id, .int .i64 off, .int .u64 sec, .int .i64 fork] 32))
  have HG1 := Lib.hid (heap_alloc_new w (.cells #[.int .u64 id, .int .i64 off, .int .u64 sec, .int .i64 fork] 32))
  clear hch hwr hl hV h hR hC hX hz
  by_cases hc : C = 0
  · rw [if_neg (by simp [hc])] at hR2
    subst hc
    by_cases hi : id = 0
    · rw [if_pos hi] at hR2
      subst hi hR2
      go_enter Tryd.func19, Tryd.ntmps19
      go_wp2_with fail
      refine (HCH.out _ HK1.out).mono ?_
      rintro e w2 ⟨rfl, hk⟩
      have HK2 := Lib.hid (HK1.out.trans hk)
      have HG2 := Lib.hid (hk.heap HG1.out (fun h => h))
      clear hk
      obtain ⟨a0, a1, a2, a3⟩ := blk4 HG2.out
      go_wp2_with fail
      go_ret2
      exact ⟨rfl, HK2.out⟩
    · rw [if_neg hi] at hR2
      have hif : ((id : Int) == 0) = false := by simpa using hi
      by_cases ho : off < 0 ∨ 1125899906842624 < off
      · rw [if_pos ho] at hR2
        subst hR2
        have HO := Lib.hid ho
        clear hi ho
        by_cases ho1 : off < 0
        · go_enter Tryd.func19, Tryd.ntmps19
          go_wp2_with fail
          refine (HCH.out _ HK1.out).mono ?_
          rintro e w2 ⟨rfl, hk⟩
          have HK2 := Lib.hid (HK1.out.trans hk)
          have HG2 := Lib.hid (hk.heap HG1.out (fun h => h))
          clear hk
          obtain ⟨a0, a1, a2, a3⟩ := blk4 HG2.out
          go_wp2_with fail
          go_ret2
          exact ⟨rfl, HK2.out⟩
        · have ho2 : 1125899906842624 < off := by have := HO.out; omega
          go_enter Tryd.func19, Tryd.ntmps19
          go_wp2_with fail
          refine (HCH.out _ HK1.out).mono ?_
          rintro e w2 ⟨rfl, hk⟩
          have HK2 := Lib.hid (HK1.out.trans hk)
          have HG2 := Lib.hid (hk.heap HG1.out (fun h => h))
          clear hk
          obtain ⟨a0, a1, a2, a3⟩ := blk4 HG2.out
          go_wp2_with fail
          go_ret2
          exact ⟨rfl, HK2.out⟩
      · rw [if_neg ho] at hR2
        have ho1 : 0 ≤ off := by omega
        have ho2 : off ≤ 1125899906842624 := by omega
        subst hR2
        clear hi ho
        go_enter Tryd.func19, Tryd.ntmps19
        go_wp2_with fail
        refine (HCH.out _ HK1.out).mono ?_
        rintro e w2 ⟨rfl, hk⟩
        have HK2 := Lib.hid (HK1.out.trans hk)
        have HG2 := Lib.hid (hk.heap HG1.out (fun h => h))
        clear hk
        obtain ⟨a0, a1, a2, a3⟩ := blk4 HG2.out
        go_wp2_with fail
        clear a0 a1 a2 a3
        refine (HWR.out _ HK2.out trivial).mono ?_
        rintro e w3 ⟨W0, rfl, hk0, hk3, v3, hg3, ho3⟩
        have hHL := HL.out trivial
        obtain ⟨ap3, cap3, rfl, _⟩ := OwnM.form ho3.t
        obtain ⟨m, hm⟩ : ∃ m, m = X.length := ⟨_, rfl⟩
        have HO3 := Lib.hid ho3
        rw [← hm] at hg3 HO3 hHL
        have HM := Lib.hid hm
        have HK3 := Lib.hid (HK2.out.trans (hk0.trans hk3))
        have hsz0 : w.heap.size ≤ W0.heap.size := (HK2.out.trans hk0).size
        have HG3 := Lib.hid hg3
        generalize W0.heap.size = g at *
        obtain ⟨c0, c1⟩ : w3.cell? ⟨g, 0, none⟩ = some (.slice ap3 m cap3) ∧ w3.cell? ⟨g, 1, none⟩ = some (.int .i64 m) := ⟨cellB hg3 rfl, cellB hg3 rfl⟩
        obtain ⟨q, hq⟩ : ∃ q : Nat, (m : Int) + 4 = (q : Int) := ⟨m + 4, by omega⟩
        have hqn : ¬ ((67108864 : Int) < (q : Int)) := by omega
        have hqd : decide ((67108864 : Int) < (q : Int)) = false := decide_eq_false hqn
        have hm63 : m ≤ 1000000000 := by omega
        have HHL := Lib.hid hHL
        clear hg3 ho3 hm hk0 hk3 HL hHL
        go_wp2_with fail
        clear c1
        refine wp_planC (fun W => W.cell? ⟨g, 0, none⟩ = some (.slice ap3 m cap3)) 13 [.flt 0, .flt 1, .flt 2, .flt 3, .seg [4, 5, 6, 7] 8, .seg [] 9, .seg [10] 11, .seg [] 12] [13, 14] (by kernel_rfl) (by kernel_rfl) (fun _ _ _ dst _ h => by cases dst <;> exact h) (fun _ _ h => h) c0 (fun n0 => ?_)
        repeat (refine planC_flt rfl rfl ?_; apply Exists.intro; refine ⟨fun w' hw' => ?_, ?_⟩; (go_simp; first | rfl | exact ⟨rfl, rfl⟩); simp only [Act.put, List.setIfInBounds_toArray, List.set_cons_succ, List.set_cons_zero])
        simp only [wpPlanC, pick, List.filterMap_cons, List.filterMap_nil, List.getElem?_cons_succ, List.getElem?_cons_zero]
        repeat (quiet_step (fail))
        refine wpQuiet_nil ?_
        rintro _ ⟨n1, rfl⟩
        go_wp2_with fail
        have HK4 := Lib.hid (HK3.out.drewN (n0 + n1))
        have HG4 := Lib.hid (show (w3.drewN (n0 + n1)).heap[g]? = _ from HG3.out)
        have HO4 := Lib.hid (HO3.out.kept ((Kept.refl NoBlock w3).drewN (n0 + n1)))
        have hs4 : (w3.drewN (n0 + n1)).heap.size = w3.heap.size := rfl
        generalize w3.drewN (n0 + n1) = w4 at *
        have hka := Kept.allocd w4 (.cells #[.slice ap3 m cap3] 22)
        have hga := heap_alloc_new w4 (.cells #[.slice ap3 m cap3] 22)
        have HK5 := Lib.hid (HK4.out.trans hka)
        have HG5 := Lib.hid (hka.heap HG4.out (fun h => h))
        have HO5 := Lib.hid (HO4.out.kept hka)
        have hmat : MatV (w4.alloc (.cells #[.slice ap3 m cap3] 22)) (.slice (some ⟨w4.heap.size, 0, none⟩) 1 1) [(.slice ap3 m cap3, X)] := by
          refine ⟨RowV.mk ⟨rfl, fun _ => ⟨_, rfl, fun j v hj => ?_⟩⟩ (Nat.le_refl _) (fun h => by cases h), fun p hp => ?_⟩
          · rw [addr_add, Nat.zero_add]
            exact cellB hga (by simpa using hj)
          · obtain rfl := List.mem_singleton.1 hp
            have := HO5.out.bytes
            exact this
        have hps := psum _ [(.slice ap3 m cap3, X)] _ (HV.out.kept HK5.out) hmat (by simp) (fun p hp => by obtain rfl := List.mem_singleton.1 hp; have := HM.out; simp only; omega)
        rw [sum_one, hs4] at hps
        have HPS := Lib.hid hps
        have HSB := Lib.hid (sumB_lt X)
        clear hka hga hmat hps hs4 c0 HK4 HG4 HO4 hq hqd hqn
        refine Halt.mk ⟨.inr (cellB HG5.out rfl), ?_⟩
        go_wp2_with fail
        generalize w4.alloc (.cells #[.slice ap3 m cap3] 22) = w5 at *
        generalize w3.heap.size = g5 at *
        (with_reducible refine HPS.out.mono ?_)
        rintro e w6 ⟨rfl, rfl⟩
        go_wp2_with fail
        refine Halt.mk ⟨.inr (cellB HG5.out rfl), ?_⟩
        have hwrp : IntKind.u64.wrap ((sumB X : Nat) : Int) = ((sumB X : Nat) : Int) := u64_wrap_id _ (by omega) (by have := HSB.out; omega)
        repeat (quiet_step (fail))
        refine wpQuiet_nil ?_
        rintro _ ⟨n2, rfl⟩
        clear hwrp
        go_wp2_with fail
        have hlo := plow (sumB X) 4 (by have := HSB.out; omega) (.inl rfl) (w6.drewN n2)
        rw [show (((4 : Nat) : Int)) = 4 from rfl] at hlo
        have HLO := Lib.hid hlo
        clear hlo
        (with_reducible refine HLO.out.mono ?_)
        rintro e w7 ⟨⟨v6, rfl, hb6⟩, hk6⟩
        have hk56 := ((Kept.refl NoBlock w6).drewN n2).trans hk6
        have HK6 := Lib.hid (HK5.out.trans hk56)
        have HG6 := Lib.hid (hk56.heap HG5.out (fun h => h))
        have HO6 := Lib.hid (HO5.out.kept hk56)
        obtain ⟨ap6, cap6, rfl, _⟩ := hb6.parts
        have HB6 := Lib.hid hb6
        clear hb6 hk6 hk56
        go_wp2_with fail
        refine Halt.mk ⟨.inr (cellB HG6.out rfl), ?_⟩
        have ho7 := HO6.out
        rw [HM.out] at ho7
        refine wpList_appZL rfl _ _ (by rfl) (g + 1) (.slice ap3 X.length cap3) X (by rw [← HM.out]; rfl) ho7 _ (leB 4 (sumB X)) (by rfl) HB6.out (by rw [leB_len]; have h1 := HM.out; have h2 := HHL.out; omega) (by have := lt_of_heap HG6.out; omega) ?_
        intro v8 w8 hown hgr
        have hlt := OwnM.lt HO6.out.t
        have HK8 := Lib.hid (HK6.out.grown hgr (fun k e hlt' => by have := hlt k (by rw [HM.out]; exact e); omega))
        have HG8 := Lib.hid (show w8.heap[g]? = some (.cells #[.slice ap3 m cap3, .int .i64 m] 77 (0, 0)) from by
          rw [hgr.block g (lt_of_heap HG6.out) (fun e => by have := hlt g (by rw [HM.out]; exact e.symm); omega)]
          exact HG6.out)
        have HO8 := Lib.hid (OwnZ.lower hown (by omega : w.heap.size ≤ g + 1))
        obtain ⟨ap8, cap8, rfl, _⟩ := OwnM.form hown.t
        rw [List.length_append, leB_len] at HO8 ⊢
        clear hown hgr hlt ho7
        generalize X.length + 4 = mm at *
        go_wp2_with fail
        refine Halt.mk ⟨.inr (cellB HG8.out rfl), ?_⟩
        repeat (quiet_step (fail))
        refine wpQuiet_nil ?_
        rintro _ ⟨n3, rfl⟩
        go_wp2_with fail
        go_ret2
        exact ⟨_, rfl, HO8.out.kept ((Kept.refl NoBlock w8).drewN n3), HK8.out.drewN n3⟩
  · rw [if_pos hc] at hR2
    subst hR2
    go_enter Tryd.func19, Tryd.ntmps19
    go_wp2_with fail
    refine (HCH.out _ HK1.out).mono ?_
    rintro e w2 ⟨rfl, hk⟩
    have HK2 := Lib.hid (HK1.out.trans hk)
    clear hk
    go_wp2_with fail
    go_ret2
    exact ⟨rfl, HK2.out⟩
end Go.Proofs.YtfhlhpknobkplaaDoor
namespace Go.Proofs.YtfhlhpknobkplaaDoor
open Go.RowKit
attribute [local go_sem] fold_part fold_some fold_some' partAt_zero

/-- How many bytes a snapshot has; or why it has none. -/
def sizeB (l : List Ent) : Except Int Nat := if checkE l ≠ 0 then .error (checkE l) else .ok ((writtenB 0 0 l).length + 4)
def SizeEnd (w : World) (r : Except Int Nat) (e : Ending) (w' : World) : Prop :=
  match r with
  | .ok n => e = .returned (.tuple #[.int .i64 n, .int .i64 0]) ∧ Kept NoBlock w w'
  | .error c => e = .returned (.tuple #[.int .i64 0, .int .i64 c]) ∧ Kept NoBlock w w'

set_option maxRecDepth 100000 in
set_option maxHeartbeats 1600000 in
theorem pSize (w : World) (v : Value) (ms : List EntM) (h : EntsV w v ms) (hn : ms.length ≤ 70000000) (hz : ∀ m ∈ ms, SizedM m.e)
    (hl : checkE (ms.map (·.e)) = 0 → (writtenB 0 0 (ms.map (·.e))).length + 4 ≤ 67108864) :
    Calls Tryd.prog 21 #[v] w (SizeEnd w (sizeB (ms.map (·.e)))) := by
  have hch := fun w' (hk : Kept NoBlock w w') => pcheck v ms w' (h.kept hk) hn hz
  have hwr := fun w' (hk : Kept NoBlock w w') (hc : checkE (ms.map (·.e)) = 0) => pwritten w' 0 0 0 0 v ms (h.kept hk) (by decide) (fun m hm => valOk_kind (by
    have := (checkE_ok hc).2 m.e (List.mem_map_of_mem hm)
    unfold entOk at this
    simp only [Bool.and_eq_true] at this
    exact this.2)) (by have := hl hc; omega)
  obtain ⟨ap, cap, rfl, _⟩ := h.1.parts
  generalize hR : sizeB (ms.map (·.e)) = R
  have hR2 := hR
  unfold sizeB at hR2
  generalize ms.length = n at *
  generalize hC : checkE (ms.map (·.e)) = C at *
  generalize hX : writtenB 0 0 (ms.map (·.e)) = X at *
  simp only [Int.natCast_zero, show ((0 : Nat) : Int) = 0 from rfl] at hwr
  have HCH := Lib.hid hch
  have HWR := Lib.hid hwr
  have HL := Lib.hid hl
  clear hch hwr hl h hR hC hX hz
  by_cases hc : C = 0
  · rw [if_neg (by simp [hc])] at hR2
    subst hc hR2
    go_enter Tryd.func21, Tryd.ntmps21
    go_wp2_with fail
    refine (HCH.out _ (Kept.refl _ _)).mono ?_
    rintro e w2 ⟨rfl, hk⟩
    have HK2 := Lib.hid hk
    clear hk
    go_wp2_with fail
    refine (HWR.out _ HK2.out trivial).mono ?_
    rintro e w3 ⟨W0, rfl, hk0, hk3, v3, hg3, ho3⟩
    have hHL := HL.out trivial
    obtain ⟨m, hm⟩ : ∃ m, m = X.length := ⟨_, rfl⟩
    rw [← hm] at hg3 hHL
    have HK3 := Lib.hid (HK2.out.trans (hk0.trans hk3))
    generalize W0.heap.size = g at *
    have c1 := cellB hg3 (i := 1) rfl
    obtain ⟨q, hq⟩ : ∃ q : Nat, (m : Int) + 4 = (q : Int) := ⟨m + 4, by omega⟩
    have hmq : m + 4 = q := by omega
    have HMQ := Lib.hid (show X.length + 4 = q from by omega)
    have hqn : ¬ ((67108864 : Int) < (q : Int)) := by omega
    have hqd : decide ((67108864 : Int) < (q : Int)) = false := decide_eq_false hqn
    have hm63 : m ≤ 1000000000 := by omega
    clear hg3 ho3 hm hk0 hk3 HL hHL hmq
    go_wp2_with fail
    go_ret2
    rw [HMQ.out]
    exact ⟨rfl, HK3.out⟩
  · rw [if_pos hc] at hR2
    subst hR2
    go_enter Tryd.func21, Tryd.ntmps21
    go_wp2_with fail
    refine (HCH.out _ (Kept.refl _ _)).mono ?_
    rintro e w2 ⟨rfl, hk⟩
    have HK2 := Lib.hid hk
    clear hk
    go_wp2_with fail
    go_ret2
    exact ⟨rfl, HK2.out⟩
end Go.Proofs.YtfhlhpknobkplaaDoor
