/- Merged: The sum of any bytes: the law. -/
import Derived.Test.YtfhlhpknobkplaaDoorZAw
set_option linter.all false
namespace Go.Proofs.YtfhlhpknobkplaaDoor
open Go.RowKit
attribute [local go_sem] fold_part fold_some fold_some' partAt_zero

/-- A guarded operation whose guard says yes. -/
theorem wpList_yes {P : Program} {ops : Array Oper} {rest : List Oper} {o : Oper} {a : Act} {w : World} {Q : Exit → Act → World → Prop} (hw : Region.wanted o (yielded ops a.tmps) = true) (h : wpList P ops Q ({ o with guard := none } :: rest) a w) : wpList P ops Q (o :: rest) a w := by
  rw [wpList, if_pos hw]
  rw [wpList, if_pos (show Region.wanted { o with guard := none } (yielded ops a.tmps) = true from rfl)] at h
  exact h

set_option maxRecDepth 100000 in
set_option maxHeartbeats 1600000 in
theorem law_sums (va vb : Value) (a b : Bs) (w : World) (hV : Vs w) (ha : BytesV w va a) (hb : BytesV w vb b) :
    Calls Tryd.prog 3 #[va, vb] w fun e w' => e = .returned (.bool true) ∧ Kept NoBlock w w' := by
  have hca := pcutB va a w ha
  have hcb := pcutB vb b w hb
  have HV := Lib.hid hV
  have HCA := Lib.hid hca
  have HCB := Lib.hid hcb
  have hal := cutB_le a
  have hbl := cutB_le b
  clear hV hca hcb ha hb
  go_enter Tryd.func3, Tryd.ntmps3
  go_wp2_with fail
  (with_reducible refine HCA.out.mono ?_)
  rintro e w1 ⟨⟨ua, rfl, hA, _⟩, rfl⟩
  go_wp2_with fail
  (with_reducible refine HCB.out.mono ?_)
  rintro e w1 ⟨⟨ub, rfl, hB, _⟩, rfl⟩
  generalize cutB a = A at *
  generalize cutB b = B at *
  obtain ⟨apa, capa, rfl, _⟩ := hA.parts
  obtain ⟨apb, capb, rfl, _⟩ := hB.parts
  have HA := Lib.hid hA
  have HB := Lib.hid hB
  obtain ⟨s, hs⟩ : ∃ s, s = sumB (A ++ B) := ⟨_, rfl⟩
  have HS := Lib.hid hs
  have h2 : ∀ w' (hk : Kept NoBlock w1 w'), Calls Tryd.prog 11 #[.slice (some ⟨w'.heap.size, 0, none⟩) 2 2] (w'.alloc (.cells #[.slice apa A.length capa, .slice apb B.length capb] 22)) (fun e w'' => e = .returned (.int .u32 (s : Nat)) ∧ w'' = w'.alloc (.cells #[.slice apa A.length capa, .slice apb B.length capb] 22)) := fun w' hk => by
    have := psum _ _ _ (HV.out.kept (hk.alloc _)) (matV_two (HA.out.keptNo hk) (HB.out.keptNo hk)) (by simp) (fun p hp => by
      simp only [List.mem_cons, List.not_mem_nil, or_false] at hp
      rcases hp with rfl | rfl <;> (simp only; omega))
    rw [sum_two, ← HS.out] at this
    exact this
  have h3 : ∀ w' (hk : Kept NoBlock w1 w'), Calls Tryd.prog 12 #[.slice (some ⟨w'.heap.size, 0, none⟩) 2 2] (w'.alloc (.cells #[.slice apa A.length capa, .slice apb B.length capb] 22)) (fun e w'' => e = .returned (.int .u32 (s : Nat)) ∧ w'' = w'.alloc (.cells #[.slice apa A.length capa, .slice apb B.length capb] 22)) := fun w' hk => by
    have := rsum _ _ _ (matV_two (HA.out.keptNo hk) (HB.out.keptNo hk)) (by simp) (fun p hp => by
      simp only [List.mem_cons, List.not_mem_nil, or_false] at hp
      rcases hp with rfl | rfl <;> (simp only; omega))
    rw [sum_two, ← HS.out] at this
    exact this
  have H2 := Lib.hid h2
  have H3 := Lib.hid h3
  clear h2 h3 hs hA hB HCA HCB
  go_wp2_with fail
  (with_reducible refine (H2.out w1 (Kept.refl _ _)).mono ?_)
  rintro e w2 ⟨rfl, rfl⟩
  have HK2 := Lib.hid (Kept.allocd w1 (.cells #[.slice apa A.length capa, .slice apb B.length capb] 22))
  generalize w1.alloc (.cells #[.slice apa A.length capa, .slice apb B.length capb] 22) = w2 at *
  go_wp2_with fail
  (with_reducible refine (H3.out w2 HK2.out).mono ?_)
  rintro e w3 ⟨rfl, rfl⟩
  have HK3 := Lib.hid (HK2.out.alloc (.cells #[.slice apa A.length capa, .slice apb B.length capb] 22))
  generalize w2.alloc (.cells #[.slice apa A.length capa, .slice apb B.length capb] 22) = w3 at *
  have HO3 : Hid (OwnT (w3.alloc (.cells #[] 5)) w3.heap.size (.slice (some ⟨w3.heap.size, 0, none⟩) 0 0) []) := Lib.hid (OwnT.fresh w3 [] (by decide))
  have HKX := Lib.hid (HK3.out.alloc (.cells #[] 5))
  have hwx : w1.heap.size ≤ w3.heap.size := HK3.out.size
  go_wp2_with (first
    | (at_builtin; refine wpList_yes (by rfl) ?_; refine wpList_appL rfl _ _ (by rfl) w3.heap.size (.slice (some ⟨w3.heap.size, 0, none⟩) 0 0) [] (by rfl) HO3.out _ A (by rfl) (HA.out.keptNo HKX.out) (by simp; omega) (by simp) ?_; intro v4 w4 hown4 hgr4; obtain ⟨ap4, cap4, rfl, _⟩ := OwnM.form hown4; have HO4 := Lib.hid hown4; have HK4 := Lib.hid (HKX.out.grown hgr4 (fun k e hlt' => by have := (OwnM.lt HO3.out) k e; omega)); have h34 : w3.heap.size ≤ w4.heap.size := by have := hgr4.size; rw [World.size_alloc] at this; omega
       clear hown4 hgr4 HO3; rw [List.nil_append] at HO4 ⊢; refine Hid.out ?_; refine Lib.hid ?_)
    | (at_builtin; refine wpList_yes (by rfl) ?_; refine wpList_appL rfl _ _ (by rfl) w3.heap.size (.slice ap4 A.length cap4) A (by rfl) HO4.out _ B (by rfl) (HB.out.keptNo HK4.out) (by omega) h34 ?_; intro v5 w5 hown5 hgr5; obtain ⟨ap5, cap5, rfl, _⟩ := OwnM.form hown5; have HO5 := Lib.hid hown5; have HK5 := Lib.hid (HK4.out.grown hgr5 (fun k e hlt' => by have := (OwnM.lt HO4.out) k e; omega)); clear hown5 hgr5 HO4; refine Hid.out ?_))
  refine Lib.hid ?_
  have hmat := matV_one HO5.out.bytes
  have hps := psum _ _ _ (HV.out.kept (HK5.out.alloc _)) hmat (by simp) (fun p hp => by obtain rfl := List.mem_singleton.1 hp; simp only [List.length_append]; omega)
  rw [sum_one, ← HS.out, List.length_append] at hps
  have HPS := Lib.hid hps
  have HK6 := Lib.hid (HK5.out.alloc (.cells #[.slice ap5 (A.length + B.length) cap5] 22))
  clear hmat hps
  go_wp2_with fail
  (with_reducible refine HPS.out.mono ?_)
  rintro e w6 ⟨rfl, rfl⟩
  generalize w5.alloc (.cells #[.slice ap5 (A.length + B.length) cap5] 22) = w6 at *
  go_wp2_with fail
  (with_reducible refine (H3.out w6 HK6.out).mono ?_)
  rintro e w7 ⟨rfl, rfl⟩
  have HK7 := Lib.hid (HK6.out.alloc (.cells #[.slice apa A.length capa, .slice apb B.length capb] 22))
  generalize w6.alloc (.cells #[.slice apa A.length capa, .slice apb B.length capb] 22) = w7 at *
  have hnil := psum (.slice none 0 0) [] w7 (HV.out.kept HK7.out) ⟨RowV.nil _, fun p hp => by cases hp⟩ (by simp) (fun p hp => by cases hp)
  rw [show (0xffffffff ^^^ sumL 0xffffffff [] : Nat) = 0 from by decide] at hnil
  rw [show (((0 : Nat) : Int)) = 0 from rfl] at hnil
  have HNI := Lib.hid hnil
  clear hnil
  go_wp2_with fail
  (with_reducible refine HNI.out.mono ?_)
  rintro e w8 ⟨rfl, rfl⟩
  go_wp2_with fail
  (with_reducible refine (lawake w8 (HV.out.kept HK7.out)).mono ?_)
  rintro e w9 ⟨rfl, hk⟩
  have HK9 := Lib.hid (HK7.out.trans hk)
  clear hk
  go_wp2_with fail
  go_ret
  exact ⟨rfl, HK9.out⟩
end Go.Proofs.YtfhlhpknobkplaaDoor
