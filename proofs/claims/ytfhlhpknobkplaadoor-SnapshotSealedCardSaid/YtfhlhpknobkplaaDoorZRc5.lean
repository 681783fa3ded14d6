/- Merged: Regions that draw their order, by a plan that may part: two barriers in either order; what floats ahead of an operation that waits for it over others; The document's check: texts, fields, the order of members; The document's check: members that are there twice; The sum of any bytes: the law; The document's check: members; The document's check of a value; The document's check of an entry, of a store. -/
import Derived.Test.YtfhlhpknobkplaaDoorZFloat
import Derived.Test.YtfhlhpknobkplaaDoorZLb
import Derived.BigQuiet
import Derived.Test.YtfhlhpknobkplaaDoorZAw
set_option linter.all false
namespace Go.Proofs.YtfhlhpknobkplaaDoor
section
variable {P : Program} {ops : Array Oper} {md : Region.Mode} {Q : Exit → Act → World → Prop} {Cl : World → Prop} {z : Nat}

/-- z waits for i, over others. -/
inductive Reach (md : Region.Mode) (ops : Array Oper) : Nat → Nat → Prop
  | one {z i : Nat} : Region.waitsFor md ops z i = true → Reach md ops z i
  | more {z k i : Nat} : Region.waitsFor md ops z k = true → Reach md ops k i → Reach md ops z i

theorem Reach.unlisted {z i : Nat} {listed : Array Bool} (h : Reach md ops z i) (hcl : Closed md ops listed) (hi : listed.getD i false = false) : listed.getD z false = false := by
  induction h with
  | one h =>
    obtain ⟨oz, hoz, e, he, hb, hon⟩ := Region.waitsFor_spec h
    cases hl : listed.getD _ false with
    | false => rfl
    | true =>
      have h4 := hcl _ oz hoz hl e he hb
      rw [hon, hi] at h4
      cases h4
  | more h _ ih =>
    obtain ⟨oz, hoz, e, he, hb, hon⟩ := Region.waitsFor_spec h
    have hk := ih hi
    cases hl : listed.getD _ false with
    | false => rfl
    | true =>
      have h4 := hcl _ oz hoz hl e he hb
      rw [hon, hk] at h4
      cases h4

theorem Reach.not_ready {z i : Nat} {listed : Array Bool} (h : Reach md ops z i) (hcl : Closed md ops listed) (hi : listed.getD i false = false) : z ∉ Region.ready md ops listed := by
  intro hr
  obtain ⟨_, o, ho, hall⟩ := mem_ready.1 hr
  cases h with
  | one h =>
    obtain ⟨oz, hoz, e, he, hb, hon⟩ := Region.waitsFor_spec h
    have : oz = o := Option.some.inj (hoz.symm.trans ho)
    subst this
    have h4 := hall e he hb
    rw [hon, hi] at h4
    cases h4
  | more h k =>
    obtain ⟨oz, hoz, e, he, hb, hon⟩ := Region.waitsFor_spec h
    have : oz = o := Option.some.inj (hoz.symm.trans ho)
    subst this
    have h4 := hall e he hb
    rw [hon, k.unlisted hcl hi] at h4
    cases h4

def reachB (md : Region.Mode) (ops : Array Oper) (z i : Nat) : Nat → Bool
  | 0 => false
  | f + 1 => Region.waitsFor md ops z i || (List.range ops.size).any fun k => Region.waitsFor md ops z k && reachB md ops k i f
theorem reach_of : ∀ (f z i : Nat), reachB md ops z i f = true → Reach md ops z i
  | 0, _, _, h => by cases h
  | f + 1, z, i, h => by
    simp only [reachB, Bool.or_eq_true] at h
    rcases h with h | h
    · exact .one h
    · obtain ⟨k, _, hk⟩ := List.any_eq_true.1 h
      simp only [Bool.and_eq_true] at hk
      exact .more hk.1 (reach_of f k i hk.2)

/-- A floating operation may be taken first (behind operation z the class is asked no more: z waits for whoever floats). -/
theorem wpAnyC_firstR {i : Nat} {oi : Oper} {v : Value} (hi : ops[i]? = some oi) (hsel : ∀ (j : Nat) (o : Oper) cs b, ops[j]? = some o → o.op ≠ .select cs b)
    (hQ : ∀ c a w, Q (.panic c) (a.put oi.dst v) w → Q (.panic c) a w) (hz : Reach md ops z i) :
    ∀ (fuel : Nat) (listed : Array Bool) (a : Act) (w : World), Closed md ops listed → listed.size = ops.size → Cl w →
      (∀ j oj, ops[j]? = some oj → j ≠ i → listed.getD j true = false → (∀ e ∈ oj.after, Region.binds md e = true → e.on ≠ i) → oi.apart ops oj = true) →
      i ∈ Region.ready md ops listed → FloatsIn P ops Cl oi v a →
      wpAnyC P md ops Q Cl z fuel (listed.setIfInBounds i true) (a.put oi.dst v) w → wpAnyC P md ops Q Cl z (fuel + 1) listed a w := by
  intro fuel
  induction fuel with
  | zero =>
    intro listed a w _ _ hcw _ hr hy H
    refine ⟨fun _ => hcw, fun h => (by rw [h] at hr; cases hr), fun j hj => ?_⟩
    by_cases hji : j = i
    · subst hji; exact hy.wpOp hi hcw H
    · have := ready_mono hj hji
      rw [H.2.1] at this
      cases this
  | succ fuel ih =>
    intro listed a w hcl hsz hcw hfree hr hy H
    refine ⟨fun _ => hcw, fun h => (by rw [h] at hr; cases hr), fun j hj => ?_⟩
    by_cases hji : j = i
    · subst hji; exact hy.wpOp hi hcw H
    · have h1 := H.2.2 j (ready_mono hj hji)
      obtain ⟨hjun, oj, hoj, hall⟩ := mem_ready.1 hj
      have h0 := (mem_ready.1 hr).1
      have hnot : ∀ e ∈ oj.after, Region.binds md e = true → e.on ≠ i := fun e he hb heq => by
        have h1 := hall e he hb
        rw [heq, getD_both h0] at h1
        cases h1
      have hzu : ((listed.setIfInBounds i true).setIfInBounds j true).getD z false = false := by
        have hun := getD_both h0
        have hzj : j ≠ z := fun e' => hz.not_ready hcl hun (e' ▸ hj)
        have hzi : i ≠ z := fun e' => hz.not_ready hcl hun (e' ▸ hr)
        rw [getD_set_ne false hzj, getD_set_ne false hzi]
        exact hz.unlisted hcl hun
      have h2 := wpOp_putC hoj (hfree j oj hoj hji hjun hnot) (fun cs b => hsel i oi cs b hi) (fun cs b => hsel j oj cs b hoj) hQ hy h1
      have hfree' : ∀ k ok, ops[k]? = some ok → k ≠ i → (listed.setIfInBounds j true).getD k true = false →
          (∀ e ∈ ok.after, Region.binds md e = true → e.on ≠ i) → oi.apart ops ok = true := fun k ok hk hki hun hno => by
        refine hfree k ok hk hki ?_ hno
        by_cases hjk : j = k
        · subst hjk; exact hjun
        · rw [getD_set_ne true hjk] at hun; exact hun
      refine wpOp_mono (fun a' w' h3 => ih (listed.setIfInBounds j true) a' w' (closed_set hcl hj) (by simpa using hsz) (wpAnyC.cl h3.2 hzu) hfree' (ready_mono hr (Ne.symm hji)) h3.1 ?_) h2
      rw [Array.setIfInBounds_comm _ _ hji]
      exact h3.2


/-- A plan that may part. -/
inductive Tree where
  | fin (Hf : List Nat)
  | flt (i : Nat) (t : Tree)
  | seg (b : Nat) (t : Tree)
  | two (b1 : Nat) (t1 : Tree) (b2 : Nat) (t2 : Tree)

def fuelT : Tree → Nat
  | .fin Hf => Hf.length
  | .flt _ t => fuelT t + 1
  | .seg _ t => fuelT t + 1
  | .two _ t1 _ _ => fuelT t1 + 1

def planBT (md : Region.Mode) (ops : Array Oper) (z : Nat) : Tree → Array Bool → Bool
  | .fin Hf, listed => headB md ops Hf listed && (Region.ready md ops (marks Hf listed)).isEmpty
  | .flt i t, listed => (Region.ready md ops listed).contains i && Region.free md ops listed i && reachB md ops z i ops.size && planBT md ops z t (listed.setIfInBounds i true)
  | .seg b t, listed => decide (Region.ready md ops listed = [b]) && planBT md ops z t (listed.setIfInBounds b true)
  | .two b1 t1 b2 t2, listed => decide (Region.ready md ops listed = [b1, b2]) && decide (fuelT t1 = fuelT t2) && planBT md ops z t1 (listed.setIfInBounds b1 true) && planBT md ops z t2 (listed.setIfInBounds b2 true)

def planOkT (ops : Array Oper) (z : Nat) (t : Tree) : Bool :=
  Region.noSelect ops && decide (fuelT t = ops.size) && planBT .any ops z t (Array.replicate ops.size false)
end

section
variable {P : Program} {l : List Oper} {md : Region.Mode} {Q : Exit → Act → World → Prop} {Cl : World → Prop} {z : Nat}

def wpTree (P : Program) (l : List Oper) (Q : Exit → Act → World → Prop) (Cl : World → Prop) (z : Nat) : Tree → Act → World → Prop
  | .fin [], a, w => Q .normal a w
  | .fin (i :: Hf), a, w => wpQuiet P l.toArray (fun w' => ∃ n, w' = w.drewN n) (fun a' => ∀ w', (∃ n, w' = w.drewN n) → Q .normal a' w') (pick l (i :: Hf)) a
  | .flt i t, a, w => wpFloat P l.toArray Cl (fun a' => wpTree P l Q Cl z t a' w) (pick l [i]) a
  | .seg b t, a, w => wpList P l.toArray (Exit.then (fun a w => Halt ((b = z ∨ Cl w) ∧ wpTree P l Q Cl z t a w) () () () () () ()) Q) (pick l [b]) a w
  | .two b1 t1 b2 t2, a, w => wpList P l.toArray (Exit.then (fun a w => Halt ((b1 = z ∨ Cl w) ∧ wpTree P l Q Cl z t1 a w) () () () () () ()) Q) (pick l [b1]) a w ∧
      wpList P l.toArray (Exit.then (fun a w => Halt ((b2 = z ∨ Cl w) ∧ wpTree P l Q Cl z t2 a w) () () () () () ()) Q) (pick l [b2]) a w

theorem tree_flt {i : Nat} {t : Tree} {a : Act} {w : World} {o : Oper} (ho : l[i]? = some o) (hg : o.guard = none)
    (h : ∃ v, (∀ w, Cl w → stillV P w v ((execOp a.eval o).run P w)) ∧ wpTree P l Q Cl z t (a.put o.dst v) w) : wpTree P l Q Cl z (.flt i t) a w := by
  obtain ⟨v, h, hk⟩ := h
  rw [wpTree, pick_one ho]
  exact wpFloat_step v hg h hk

theorem tree_seg {b : Nat} {t : Tree} {a : Act} {w : World} {o : Oper} (ho : l[b]? = some o)
    (h : wpList P l.toArray (Exit.then (fun a w => Halt ((b = z ∨ Cl w) ∧ wpTree P l Q Cl z t a w) () () () () () ()) Q) [o] a w) : wpTree P l Q Cl z (.seg b t) a w := by
  rw [wpTree, pick_one ho]; exact h
theorem tree_two {b1 b2 : Nat} {t1 t2 : Tree} {a : Act} {w : World} {o1 o2 : Oper} (ho1 : l[b1]? = some o1) (ho2 : l[b2]? = some o2)
    (h1 : wpList P l.toArray (Exit.then (fun a w => Halt ((b1 = z ∨ Cl w) ∧ wpTree P l Q Cl z t1 a w) () () () () () ()) Q) [o1] a w)
    (h2 : wpList P l.toArray (Exit.then (fun a w => Halt ((b2 = z ∨ Cl w) ∧ wpTree P l Q Cl z t2 a w) () () () () () ()) Q) [o2] a w) : wpTree P l Q Cl z (.two b1 t1 b2 t2) a w := by
  rw [wpTree, pick_one ho1, pick_one ho2]; exact ⟨h1, h2⟩
theorem tree_fin {i : Nat} {Hf : List Nat} {a : Act} {w : World} (h : wpQuiet P l.toArray (fun w' => ∃ n, w' = w.drewN n) (fun a' => ∀ w', (∃ n, w' = w.drewN n) → Q .normal a' w') (pick l (i :: Hf)) a) : wpTree P l Q Cl z (.fin (i :: Hf)) a w := by
  rw [wpTree]; exact h

theorem wpAnyC_tree (hsel : Region.noSelect l.toArray = true) (hQ : ∀ c a w dst v, Q (.panic c) (a.put dst v) w → Q (.panic c) a w) (hdr : ∀ w n, Cl w → Cl (w.drewN n)) :
    ∀ (t : Tree) (listed : Array Bool) (a : Act) (w : World),
    Closed md l.toArray listed → listed.size = l.toArray.size → planBT md l.toArray z t listed = true → (listed.getD z false = false → Cl w) → wpTree P l Q Cl z t a w → wpAnyC P md l.toArray Q Cl z (fuelT t) listed a w
  | .fin [], listed, a, w, _, _, hB, hcw, h => by
    simp only [planBT, headB, marks, Bool.true_and, List.isEmpty_iff] at hB
    exact ⟨hcw, hB, h⟩
  | .fin (i :: Hf), listed, a, w, _, _, hB, hcw, h => by
    simp only [planBT, Bool.and_eq_true, List.isEmpty_iff] at hB
    exact wpAnyC_of_quiet (C := fun w' => ∃ n, w' = w.drewN n) (Q0 := fun a' => ∀ w', (∃ n, w' = w.drewN n) → Q .normal a' w') (listed.getD z false) (fun hz w' ⟨n, e⟩ => e ▸ hdr w n (hcw hz)) (fun _ w' hw' h => h w' hw') _ _ _ _ (fun h => h) ⟨0, rfl⟩
      (wpAnyQ_list (C := fun w' => ∃ n, w' = w.drewN n) hsel (i :: Hf) listed a hB.1 hB.2 h)
  | .flt i t, listed, a, w, hcl, hsz, hB, hcw, h => by
    simp only [planBT, Bool.and_eq_true] at hB
    obtain ⟨⟨⟨hr, hf⟩, hz⟩, hB2⟩ := hB
    have hz' := reach_of _ _ _ hz
    have hr' : i ∈ Region.ready md l.toArray listed := by simpa using hr
    obtain ⟨h0, oi, hoi, hall⟩ := mem_ready.1 hr'
    have hoi' : l[i]? = some oi := by simpa using hoi
    simp only [wpTree, pick_one hoi', wpFloat] at h
    obtain ⟨v, h1, h2, h3⟩ := h
    have hzl : listed.getD z false = false := hz'.unlisted hcl (getD_both h0)
    refine wpAnyC_firstR hoi (Region.noSelect_spec hsel) (fun c a w => hQ c a w _ _) hz' _ listed a w hcl hsz (hcw hzl) (Region.free_spec hoi hf) hr' ?_
      (wpAnyC_tree hsel hQ hdr t _ _ w (closed_set hcl hr') (by simpa using hsz) hB2 (fun _ => hcw hzl) h3)
    by_cases hwa : Region.wanted oi (yielded l.toArray a.tmps) = true
    · exact .inl ⟨hwa, h1 hwa⟩
    · have hwa' : Region.wanted oi (yielded l.toArray a.tmps) = false := by simpa using hwa
      exact .inr ⟨hwa', h2 hwa'⟩
  | .seg b t, listed, a, w, hcl, hsz, hB, hcw, h => by
    simp only [planBT, Bool.and_eq_true, decide_eq_true_eq] at hB
    obtain ⟨hr, hB2⟩ := hB
    have hbr : b ∈ Region.ready md l.toArray listed := by rw [hr]; simp
    obtain ⟨_, ob, hob, _⟩ := mem_ready.1 hbr
    have hob' : l[b]? = some ob := by simpa using hob
    have hblt : b < l.toArray.size := (Array.getElem?_eq_some_iff.1 hob).1
    rw [wpTree, pick_one hob'] at h
    refine ⟨hcw, fun h0 => (by rw [hr] at h0; cases h0), fun i hi => ?_⟩
    rw [hr] at hi
    have : i = b := by simpa using hi
    subst this
    refine wpOp_mono (fun a'' w'' h'' => wpAnyC_tree hsel hQ hdr t _ a'' w'' (closed_set hcl hbr) (by simpa using hsz) hB2 (fun hzf => ?_) h''.2) (wpList_pick hob h)
    rcases h''.1 with e | hc'
    · subst e
      simp [show i < listed.size by omega] at hzf
    · exact hc'
  | .two b1 t1 b2 t2, listed, a, w, hcl, hsz, hB, hcw, h => by
    simp only [planBT, Bool.and_eq_true, decide_eq_true_eq] at hB
    obtain ⟨⟨⟨hr, hfu⟩, hB1⟩, hB2⟩ := hB
    have hbr1 : b1 ∈ Region.ready md l.toArray listed := by rw [hr]; simp
    have hbr2 : b2 ∈ Region.ready md l.toArray listed := by rw [hr]; simp
    obtain ⟨_, ob1, hob1, _⟩ := mem_ready.1 hbr1
    obtain ⟨_, ob2, hob2, _⟩ := mem_ready.1 hbr2
    have hob1' : l[b1]? = some ob1 := by simpa using hob1
    have hob2' : l[b2]? = some ob2 := by simpa using hob2
    have hblt1 : b1 < l.toArray.size := (Array.getElem?_eq_some_iff.1 hob1).1
    have hblt2 : b2 < l.toArray.size := (Array.getElem?_eq_some_iff.1 hob2).1
    rw [wpTree, pick_one hob1', pick_one hob2'] at h
    refine ⟨hcw, fun h0 => (by rw [hr] at h0; cases h0), fun i hi => ?_⟩
    rw [hr] at hi
    have hi' : i = b1 ∨ i = b2 := by simpa using hi
    rcases hi' with rfl | rfl
    · refine wpOp_mono (fun a'' w'' h'' => wpAnyC_tree hsel hQ hdr t1 _ a'' w'' (closed_set hcl hbr1) (by simpa using hsz) hB1 (fun hzf => ?_) h''.2) (wpList_pick hob1 h.1)
      rcases h''.1 with e | hc'
      · subst e
        simp [show i < listed.size by omega] at hzf
      · exact hc'
    · refine wpOp_mono (fun a'' w'' h'' => hfu ▸ wpAnyC_tree hsel hQ hdr t2 _ a'' w'' (closed_set hcl hbr2) (by simpa using hsz) hB2 (fun hzf => ?_) h''.2) (wpList_pick hob2 h.2)
      rcases h''.1 with e | hc'
      · subst e
        simp [show i < listed.size by omega] at hzf
      · exact hc'

/-- A region that draws its order, by a plan that may part: asked in the world behind the draw. -/
theorem wp_tree {id : Nat} {a : Act} {w : World} (Cl : World → Prop) (z : Nat) (t : Tree) (hm : P.follows .mixedOrders = true) (hB : planOkT l.toArray z t = true)
    (hQ : ∀ c a w dst v, Q (.panic c) (a.put dst v) w → Q (.panic c) a w) (hdr : ∀ w n, Cl w → Cl (w.drewN n)) (hcw : Cl w)
    (h : ∀ n, wpTree P l Q Cl z t a (w.drewN n)) : (Code.region id l.toArray true).wp P Q a w := by
  simp only [planOkT, Bool.and_eq_true, decide_eq_true_eq] at hB
  have h2 := wpAnyC_tree (md := .any) hB.1.1 hQ hdr t _ a (w.drewN 1) closed_start (by simp) hB.2 (fun _ => hdr w 1 hcw) (h 1)
  rw [hB.1.2] at h2
  exact wp_region_any hm h2.any
end
end Go.Proofs.YtfhlhpknobkplaaDoor
namespace Go.Proofs.YtfhlhpknobkplaaDoor
open Go.RowKit
attribute [local go_sem] fold_part fold_some fold_some' partAt_zero

theorem rsized (n : Nat) (w : World) (hn : n ≤ 70000000) : Calls Tryd.prog 74 #[.int .i64 n] w fun e w' => e = .returned (.bool (sizedN n)) ∧ w' = w := by
  unfold sizedN
  by_cases h1 : 1 ≤ n
  · by_cases h2 : n ≤ 65536
    · have e : decide (1 ≤ n ∧ n ≤ 65536) = true := by simp [h1, h2]
      rw [e]; clear e
      go_enter Tryd.func74, Tryd.ntmps74
      go_wp2_with fail
      go_ret
      exact ⟨by simp <;> omega, rfl⟩
    · have e : decide (1 ≤ n ∧ n ≤ 65536) = false := by simp [h2]
      rw [e]; clear e
      go_enter Tryd.func74, Tryd.ntmps74
      go_wp2_with fail
      go_ret
      exact ⟨by simp <;> omega, rfl⟩
  · have e : decide (1 ≤ n ∧ n ≤ 65536) = false := by simp [h1]
    rw [e]; clear e
    go_enter Tryd.func74, Tryd.ntmps74
    go_wp2_with fail
    go_ret
    exact ⟨by simp <;> omega, rfl⟩

set_option maxRecDepth 100000 in
theorem rahead (a b : Bs × Int) (w : World) : Calls Tryd.prog 83 #[zA a, zA b] w fun e w' => e = .returned (.bool (ltZ a b)) ∧ Kept NoBlock w w' := by
  obtain ⟨x, m⟩ := a
  obtain ⟨y, n⟩ := b
  unfold zA strV
  simp only
  obtain ⟨S, hS⟩ : ∃ S : ByteArray, S = ⟨x.toArray⟩ := ⟨_, rfl⟩
  obtain ⟨T, hT⟩ : ∃ S : ByteArray, S = ⟨y.toArray⟩ := ⟨_, rfl⟩
  have hl := str_less hS hT
  rw [← hS, ← hT]
  generalize hM : ltZ (x, m) (y, n) = M
  unfold ltZ at hM
  simp only at hM
  have HK := Lib.hid ((Kept.allocd w (.cells #[.string S, .int .i64 m] 99)).alloc (.cells #[.string T, .int .i64 n] 99))
  clear hS hT
  by_cases h1 : m < n
  · rw [if_pos h1] at hM
    subst hM
    clear hl
    go_enter Tryd.func83, Tryd.ntmps83
    go_wp2_with fail
    go_ret
    exact ⟨rfl, HK.out⟩
  · rw [if_neg h1] at hM
    by_cases h2 : n < m
    · rw [if_pos h2] at hM
      subst hM
      have h3 : ¬ (m = n) := by omega
      clear hl
      go_enter Tryd.func83, Tryd.ntmps83
      go_wp2_with fail
      go_ret
      exact ⟨rfl, HK.out⟩
    · rw [if_neg h2] at hM
      obtain rfl : m = n := by omega
      rw [hM] at hl
      clear hM
      go_enter Tryd.func83, Tryd.ntmps83
      go_wp2_with fail
      go_ret
      exact ⟨rfl, HK.out⟩
theorem short_not {s : Bs} {S : ByteArray} (hS : S = ⟨s.toArray⟩) : (shortB s = true ↔ S.size ≤ 65536) := by
  rw [str_size hS]
  unfold shortB
  simp
theorem addr0 (a : Addr) : a.add 0 = a := by unfold Addr.add; rfl
theorem RisesTo.zero {α : Type} (lt : α → α → Bool) (l : List α) : RisesTo lt l 0 := fun j a b h => by omega

set_option maxRecDepth 100000 in
set_option maxHeartbeats 1600000 in
theorem rtextsF (v : Value) (L : List Bs) (w : World) (h : RowV w v (L.map strV)) (hn : L.length ≤ 70000000) :
    Calls Tryd.prog 75 #[v, .bool false] w fun e w' => e = .returned (.bool (L.all shortB)) ∧ Kept NoBlock w w' := by
  obtain ⟨ap, cap, rfl, _⟩ := h.parts
  generalize hM : (L.all shortB) = M
  have HM := Lib.hid hM
  have HROW := Lib.hid h
  rw [List.length_map] at HROW ⊢
  obtain ⟨n, hnn⟩ : ∃ n, n = L.length := ⟨_, rfl⟩
  rw [← hnn] at hn HROW ⊢
  have HN := Lib.hid hnn
  clear hM hnn h
  go_enter Tryd.func75, Tryd.ntmps75
  go_wp2_with fail
  go_loopw [5] (fun v5 wr => ∃ i : Nat, v5 = .int .i64 i ∧ i ≤ n ∧ (L.take i).all shortB = true ∧ Kept NoBlock w wr) (fun v5 _ => n - (intOf v5).toNat)
  case atStart => exact ⟨0, rfl, Nat.zero_le _, rfl, Kept.refl _ _⟩
  case round =>
    obtain ⟨i, rfl, hi, hr, hk⟩ := hrel
    have HR := Lib.hid hr
    have HK := Lib.hid hk
    clear hr hk
    by_cases hlt : i < n
    · have hil : i < L.length := by have := HN.out; omega
      obtain ⟨a, ha⟩ : ∃ a, L[i]? = some a := ⟨L[i], List.getElem?_eq_getElem hil⟩
      obtain ⟨ad, rfl, a0⟩ := RowV.cell (RowV.keptNo HROW.out HK.out) (row_map ha)
      have HA := Lib.hid ha
      obtain ⟨S, hS⟩ : ∃ S : ByteArray, S = ⟨a.toArray⟩ := ⟨_, rfl⟩
      unfold strV at a0
      rw [← hS] at a0
      have hsn := short_not hS
      have HS := Lib.hid hS
      clear ha hil hS
      cases hsh : shortB a with
      | false =>
        have hfin : M = false := by
          rw [← HM.out, all_not HA.out hsh]
          all_goals rfl
        subst hfin
        have hsz : ¬ (S.size ≤ 65536) := fun h => by rw [hsn.2 h] at hsh; cases hsh
        have hd : decide ((65536 : Int) < (S.size : Int)) = true := decide_eq_true (by omega)
        clear hsh hsn
        go_wp2_with fail
        go_quiet (fail)
        go_wp2_with fail
        go_ret
        exact ⟨rfl, HK.out.drewN _⟩
      | true =>
        have hsz : S.size ≤ 65536 := hsn.1 hsh
        have hd : decide ((65536 : Int) < (S.size : Int)) = false := decide_eq_false (by omega)
        have HR3 := Lib.hid (all_next HR.out HA.out hsh)
        clear hsh hsn
        go_wp2_with fail
        go_quiet (fail)
        clear a0
        go_wp2_with fail
        go_roundw
        case rel => exact ⟨i + 1, by go_num, by omega, HR3.out, HK.out.drewN _⟩
        case measure => simp [intOf]; omega
    · have hfin : M = true := by
        rw [← HM.out]
        have := HR.out
        rw [List.take_of_length_le (by have := HN.out; omega)] at this
        rw [this]
      subst hfin
      go_wp2_with fail
      go_ret
      exact ⟨rfl, HK.out⟩

set_option maxRecDepth 100000 in
set_option maxHeartbeats 1600000 in
theorem rtextsT (v : Value) (L : List Bs) (w : World) (h : RowV w v (L.map strV)) (hn : L.length ≤ 70000000) :
    Calls Tryd.prog 75 #[v, .bool true] w fun e w' => e = .returned (.bool (L.all shortB && risesBy ltB L)) ∧ Kept NoBlock w w' := by
  obtain ⟨ap, cap, rfl, _⟩ := h.parts
  generalize hM : (L.all shortB && risesBy ltB L) = M
  have HM := Lib.hid hM
  have HROW := Lib.hid h
  rw [List.length_map] at HROW ⊢
  obtain ⟨n, hnn⟩ : ∃ n, n = L.length := ⟨_, rfl⟩
  rw [← hnn] at hn HROW ⊢
  have HN := Lib.hid hnn
  clear hM hnn h
  go_enter Tryd.func75, Tryd.ntmps75
  go_wp2_with fail
  go_loopw [5] (fun v5 wr => ∃ i : Nat, v5 = .int .i64 i ∧ i ≤ n ∧ (L.take i).all shortB = true ∧ RisesTo ltB L i ∧ Kept NoBlock w wr) (fun v5 _ => n - (intOf v5).toNat)
  case atStart => exact ⟨0, rfl, Nat.zero_le _, rfl, RisesTo.zero _ _, Kept.refl _ _⟩
  case round =>
    obtain ⟨i, rfl, hi, hr, hrr, hk⟩ := hrel
    have HR := Lib.hid hr
    have HRR := Lib.hid hrr
    clear hrr
    have HK := Lib.hid hk
    clear hr hk
    by_cases hlt : i < n
    · have hil : i < L.length := by have := HN.out; omega
      obtain ⟨a, ha⟩ : ∃ a, L[i]? = some a := ⟨L[i], List.getElem?_eq_getElem hil⟩
      obtain ⟨ad, rfl, a0⟩ := RowV.cell (RowV.keptNo HROW.out HK.out) (row_map ha)
      have HA := Lib.hid ha
      obtain ⟨S, hS⟩ : ∃ S : ByteArray, S = ⟨a.toArray⟩ := ⟨_, rfl⟩
      unfold strV at a0
      rw [← hS] at a0
      have hsn := short_not hS
      have HS := Lib.hid hS
      clear ha hil hS
      cases hsh : shortB a with
      | false =>
        have hfin : M = false := by
          rw [← HM.out, all_not HA.out hsh]
          all_goals rfl
        subst hfin
        have hsz : ¬ (S.size ≤ 65536) := fun h => by rw [hsn.2 h] at hsh; cases hsh
        have hd : decide ((65536 : Int) < (S.size : Int)) = true := decide_eq_true (by omega)
        clear hsh hsn
        go_wp2_with fail
        go_quiet (fail)
        go_wp2_with fail
        go_ret
        exact ⟨rfl, HK.out.drewN _⟩
      | true =>
        have hsz : S.size ≤ 65536 := hsn.1 hsh
        have hd : decide ((65536 : Int) < (S.size : Int)) = false := decide_eq_false (by omega)
        have HR3 := Lib.hid (all_next HR.out HA.out hsh)
        clear hsh hsn
        by_cases hi0 : i = 0
        · subst hi0
          have HRN : Hid (RisesTo ltB L (0 + 1)) := Lib.hid (RisesTo.one _ _)
          have z0 := a0
          rw [addr0] at z0
          go_wp2_with fail
          go_quiet (fail)
          clear a0 z0
          go_wp2_with fail
          go_roundw
          case rel => exact ⟨0 + 1, by go_num, by omega, HR3.out, HRN.out, HK.out.drewN _⟩
          case measure => simp [intOf]; omega
        · obtain ⟨j, hj⟩ : ∃ j, i = j + 1 := ⟨i - 1, by omega⟩
          have hjl : j < L.length := by have := HN.out; omega
          obtain ⟨b, hb⟩ : ∃ a, L[j]? = some a := ⟨L[j], List.getElem?_eq_getElem hjl⟩
          obtain ⟨bd, he, b0⟩ := RowV.cell (RowV.keptNo HROW.out HK.out) (row_map hb)
          obtain rfl := Option.some.inj he
          obtain ⟨T, hT⟩ : ∃ S : ByteArray, S = ⟨b.toArray⟩ := ⟨_, rfl⟩
          unfold strV at b0
          rw [← hT] at b0
          have hless := str_less hT HS.out
          have hwr : IntKind.i64.wrap ((i : Int) - 1) = (j : Int) := by rw [IntWalk.i64_in _ (by omega)]; omega
          have hjn : j < n := by omega
          have hi1 : 0 < i := by omega
          have hd0 : decide ((0 : Int) < (i : Int)) = true := decide_eq_true (by omega)
          have HJ := Lib.hid hj
          have HB := Lib.hid hb
          clear hj hjl hb hT hi0
          cases hl : ltB b a with
          | false =>
            rw [hl] at hless
            have hfin : M = false := by
              rw [← HM.out, not_rises HB.out (by have := HA.out; rw [HJ.out] at this; exact this) hl, Bool.and_false]
            subst hfin
            clear hl
            go_wp2_with fail
            go_quiet (fail)
            go_wp2_with fail
            go_ret
            exact ⟨rfl, HK.out.drewN _⟩
          | true =>
            rw [hl] at hless
            have HRN := Lib.hid (HRR.out.next HJ.out HB.out HA.out hl)
            clear hl
            go_wp2_with fail
            go_quiet (fail)
            clear a0 b0 hwr hless
            go_wp2_with fail
            go_roundw
            case rel => exact ⟨i + 1, by go_num, by omega, HR3.out, HRN.out, HK.out.drewN _⟩
            case measure => simp [intOf]; omega
    · have hfin : M = true := by
        rw [← HM.out]
        have := HR.out
        rw [List.take_of_length_le (by have := HN.out; omega)] at this
        rw [this]
        exact HRR.out.all (by have := HN.out; omega)
      subst hfin
      go_wp2_with fail
      go_ret
      exact ⟨rfl, HK.out⟩

set_option maxRecDepth 100000 in
set_option maxHeartbeats 1600000 in
theorem rfields (v : Value) (L : List (Bs × Bs)) (w : World) (h : RowK 2 hCells w v L) (hn : L.length ≤ 70000000) :
    Calls Tryd.prog 77 #[v] w fun e w' => e = .returned (.bool (L.all okF && risesBy ltF L)) ∧ Kept NoBlock w w' := by
  obtain ⟨ap, cap, rfl, _⟩ := h.parts
  generalize hM : (L.all okF && risesBy ltF L) = M
  have HM := Lib.hid hM
  have HROW := Lib.hid h
  obtain ⟨n, hnn⟩ : ∃ n, n = L.length := ⟨_, rfl⟩
  rw [← hnn] at hn HROW ⊢
  have HN := Lib.hid hnn
  clear hM hnn h
  go_enter Tryd.func77, Tryd.ntmps77
  go_wp2_with fail
  go_loopw [3] (fun v3 wr => ∃ i : Nat, v3 = .int .i64 i ∧ i ≤ n ∧ (L.take i).all okF = true ∧ RisesTo ltF L i ∧ Kept NoBlock w wr) (fun v3 _ => n - (intOf v3).toNat)
  case atStart => exact ⟨0, rfl, Nat.zero_le _, rfl, RisesTo.zero _ _, Kept.refl _ _⟩
  case round =>
    obtain ⟨i, rfl, hi, hr, hrr, hk⟩ := hrel
    have HR := Lib.hid hr
    have HRR := Lib.hid hrr
    clear hrr
    have HK := Lib.hid hk
    clear hr hk
    by_cases hlt : i < n
    · have hil : i < L.length := by have := HN.out; omega
      obtain ⟨a, ha⟩ : ∃ a, L[i]? = some a := ⟨L[i], List.getElem?_eq_getElem hil⟩
      obtain ⟨ad, rfl, a0, a1⟩ := agg_two (fun _ => rfl) (HROW.out.kept HK.out) ha rfl
      have HA := Lib.hid ha
      obtain ⟨x, y⟩ := a
      obtain ⟨S, hS⟩ : ∃ S : ByteArray, S = ⟨x.toArray⟩ := ⟨_, rfl⟩
      obtain ⟨S', hS'⟩ : ∃ S : ByteArray, S = ⟨y.toArray⟩ := ⟨_, rfl⟩
      unfold strV at a0 a1
      simp only at a0 a1
      rw [← hS] at a0
      rw [← hS'] at a1
      have hsn := short_not hS
      have hsn' := short_not hS'
      have hok : okF (x, y) = (shortB x && shortB y) := rfl
      have HS := Lib.hid hS
      clear ha hil hS hS'
      cases hsh : okF (x, y) with
      | false =>
        have hfin : M = false := by
          rw [← HM.out, all_not HA.out hsh]
          rfl
        subst hfin
        by_cases hsz : S.size ≤ 65536
        · have hsz' : ¬ (S'.size ≤ 65536) := fun h => by rw [hok, hsn.2 hsz, hsn'.2 h] at hsh; cases hsh
          have hd : decide ((65536 : Int) < (S.size : Int)) = false := decide_eq_false (by omega)
          have hd' : decide ((65536 : Int) < (S'.size : Int)) = true := decide_eq_true (by omega)
          clear hsh hsn hsn' hok
          go_wp2_with fail
          go_quiet (fail)
          go_wp2_with fail
          go_ret
          exact ⟨rfl, HK.out.drewN _⟩
        · have hd : decide ((65536 : Int) < (S.size : Int)) = true := decide_eq_true (by omega)
          clear hsh hsn hsn' hok
          go_wp2_with fail
          go_quiet (fail)
          go_wp2_with fail
          go_ret
          exact ⟨rfl, HK.out.drewN _⟩
      | true =>
        have hb2 : shortB x = true ∧ shortB y = true := by rw [hok, Bool.and_eq_true] at hsh; exact hsh
        have hsz : S.size ≤ 65536 := hsn.1 hb2.1
        have hsz' : S'.size ≤ 65536 := hsn'.1 hb2.2
        have hd : decide ((65536 : Int) < (S.size : Int)) = false := decide_eq_false (by omega)
        have hd' : decide ((65536 : Int) < (S'.size : Int)) = false := decide_eq_false (by omega)
        have HR3 := Lib.hid (all_next HR.out HA.out hsh)
        clear hsh hsn hsn' hb2 hok
        by_cases hi0 : i = 0
        · subst hi0
          have HRN : Hid (RisesTo ltF L (0 + 1)) := Lib.hid (RisesTo.one _ _)
          have z0 := a0
          have z1 := a1
          rw [Nat.zero_mul, addr0] at z0 z1
          go_wp2_with fail
          go_quiet (fail)
          clear a0 a1 z0 z1
          go_wp2_with fail
          go_roundw
          case rel => exact ⟨0 + 1, by go_num, by omega, HR3.out, HRN.out, HK.out.drewN _⟩
          case measure => simp [intOf]; omega
        · obtain ⟨j, hj⟩ : ∃ j, i = j + 1 := ⟨i - 1, by omega⟩
          have hjl : j < L.length := by have := HN.out; omega
          obtain ⟨b, hb⟩ : ∃ a, L[j]? = some a := ⟨L[j], List.getElem?_eq_getElem hjl⟩
          obtain ⟨bd, he, b0, b1⟩ := agg_two (fun _ => rfl) (HROW.out.kept HK.out) hb rfl
          obtain rfl := Option.some.inj he
          obtain ⟨x2, y2⟩ := b
          obtain ⟨T, hT⟩ : ∃ S : ByteArray, S = ⟨x2.toArray⟩ := ⟨_, rfl⟩
          unfold strV at b0
          simp only at b0
          rw [← hT] at b0
          have hless : Op.bytesLess T.toList S.toList = ltF (x2, y2) (x, y) := str_less hT HS.out
          have hwr : IntKind.i64.wrap ((i : Int) - 1) = (j : Int) := by rw [IntWalk.i64_in _ (by omega)]; omega
          have hjn : j < n := by omega
          have hi1 : 0 < i := by omega
          have hd0 : decide ((0 : Int) < (i : Int)) = true := decide_eq_true (by omega)
          have HJ := Lib.hid hj
          have HB := Lib.hid hb
          clear hj hjl hb hT hi0
          cases hl : ltF (x2, y2) (x, y) with
          | false =>
            rw [hl] at hless
            have hfin : M = false := by
              rw [← HM.out, not_rises HB.out (by have := HA.out; rw [HJ.out] at this; exact this) hl, Bool.and_false]
            subst hfin
            clear hl
            go_wp2_with fail
            go_quiet (fail)
            go_wp2_with fail
            go_ret
            exact ⟨rfl, HK.out.drewN _⟩
          | true =>
            rw [hl] at hless
            have HRN := Lib.hid (HRR.out.next HJ.out HB.out HA.out hl)
            clear hl
            go_wp2_with fail
            go_quiet (fail)
            clear a0 a1 b0 b1 hwr hless
            go_wp2_with fail
            go_roundw
            case rel => exact ⟨i + 1, by go_num, by omega, HR3.out, HRN.out, HK.out.drewN _⟩
            case measure => simp [intOf]; omega
    · have hfin : M = true := by
        rw [← HM.out]
        have := HR.out
        rw [List.take_of_length_le (by have := HN.out; omega)] at this
        rw [this]
        exact HRR.out.all (by have := HN.out; omega)
      subst hfin
      go_wp2_with fail
      go_ret
      exact ⟨rfl, HK.out⟩
end Go.Proofs.YtfhlhpknobkplaaDoor
namespace Go.Proofs.YtfhlhpknobkplaaDoor
open Go.RowKit
attribute [local go_sem] fold_part fold_some fold_some' partAt_zero

theorem ltB_irr : ∀ x : Bs, ltB x x = false
  | [] => rfl
  | a :: x => by rw [ltB, if_neg (by simp), if_neg (by simp)]; exact ltB_irr x
theorem ltB_trans : ∀ x y z : Bs, ltB x y = true → ltB y z = true → ltB x z = true
  | _, [], [], _, h => by cases h
  | [], [], _ :: _, h, _ => by cases h
  | _ :: _, [], _ :: _, h, _ => by cases h
  | _, _ :: _, [], _, h => by cases h
  | [], _ :: _, _ :: _, _, _ => rfl
  | a :: x, b :: y, c :: z, h, h' => by
    rw [ltB] at h h' ⊢
    by_cases h1 : a < b
    · by_cases h2 : b < c
      · rw [if_pos (UInt8.lt_trans h1 h2)]
      · rw [if_neg h2] at h'
        by_cases h3 : c < b
        · rw [if_pos h3] at h'; cases h'
        · have e : b = c := UInt8.le_antisymm (UInt8.not_lt.1 h3) (UInt8.not_lt.1 h2)
          rw [← e, if_pos h1]
    · rw [if_neg h1] at h
      by_cases h2 : b < a
      · rw [if_pos h2] at h; cases h
      · have e : a = b := UInt8.le_antisymm (UInt8.not_lt.1 h2) (UInt8.not_lt.1 h1)
        subst e
        rw [if_neg h1] at h
        by_cases h3 : a < c
        · rw [if_pos h3]
        · rw [if_neg h3] at h' ⊢
          by_cases h4 : c < a
          · rw [if_pos h4] at h'; cases h'
          · rw [if_neg h4] at h' ⊢
            exact ltB_trans x y z h h'
theorem ltB_or : ∀ {x y : Bs}, ltB x y = false → x ≠ y → ltB y x = true
  | [], [], _, h => absurd rfl h
  | [], _ :: _, h, _ => by cases h
  | _ :: _, [], _, _ => rfl
  | a :: x, b :: y, h, hn => by
    rw [ltB] at h ⊢
    by_cases h1 : a < b
    · rw [if_pos h1] at h; cases h
    · rw [if_neg h1] at h
      by_cases h2 : b < a
      · rw [if_pos h2]
      · rw [if_neg h2] at h
        rw [if_neg h2, if_neg h1]
        have e : a = b := UInt8.le_antisymm (UInt8.not_lt.1 h2) (UInt8.not_lt.1 h1)
        exact ltB_or h (fun e' => hn (by rw [e, e']))

/-- A row of texts that rises. -/
def Up (xs : List Bs) : Prop := xs.Pairwise fun a b => ltB a b = true
theorem Up.at {xs : List Bs} (h : Up xs) {i j : Nat} {a b : Bs} (hij : i < j) (ha : xs[i]? = some a) (hb : xs[j]? = some b) : ltB a b = true := by
  obtain ⟨h1, rfl⟩ := List.getElem?_eq_some_iff.1 ha
  obtain ⟨h2, rfl⟩ := List.getElem?_eq_some_iff.1 hb
  exact List.pairwise_iff_getElem.1 h i j h1 h2 hij
theorem ins_up {xs : List Bs} {s : Bs} {k : Nat} (h : Up xs) (h1 : ∀ (j : Nat) x, j < k → xs[j]? = some x → ltB x s = true) (h2 : ∀ (j : Nat) x, k ≤ j → xs[j]? = some x → ltB s x = true) : Up ([] ++ xs.take k ++ [s] ++ xs.drop k) := by
  unfold Up
  rw [List.nil_append, List.pairwise_append, List.pairwise_append]
  refine ⟨⟨List.Pairwise.sublist (List.take_sublist _ _) h, List.pairwise_singleton _ _, fun a ha b hb => ?_⟩, List.Pairwise.sublist (List.drop_sublist _ _) h, fun a ha b hb => ?_⟩
  · obtain rfl := List.mem_singleton.1 hb
    obtain ⟨j, hj⟩ := List.getElem?_of_mem ha
    rw [List.getElem?_take] at hj
    split at hj
    · exact h1 j a (by assumption) hj
    · cases hj
  · obtain ⟨j', hj'⟩ := List.getElem?_of_mem hb
    rw [List.getElem?_drop] at hj'
    have hb2 := h2 _ b (Nat.le_add_right _ _) hj'
    rcases List.mem_append.1 ha with ha | ha
    · obtain ⟨j, hj⟩ := List.getElem?_of_mem ha
      rw [List.getElem?_take] at hj
      split at hj
      · exact ltB_trans _ _ _ (h1 j a (by assumption) hj) hb2
      · cases hj
    · obtain rfl := List.mem_singleton.1 ha
      exact hb2
theorem ins_mem {xs : List Bs} {s : Bs} {k : Nat} (x : Bs) : x ∈ [] ++ xs.take k ++ [s] ++ xs.drop k ↔ x ∈ xs ∨ x = s := by
  have : x ∈ xs ↔ x ∈ xs.take k ∨ x ∈ xs.drop k := by
    rw [← List.mem_append, List.take_append_drop]
  rw [this]
  simp only [List.mem_append, List.mem_singleton, List.nil_append]
  constructor
  · rintro ((h | h) | h)
    · exact .inl (.inl h)
    · exact .inr h
    · exact .inl (.inr h)
  · rintro ((h | h) | h)
    · exact .inl (.inl h)
    · exact .inr h
    · exact .inl (.inr h)

/-- A row with a text in it. -/
def IntoEnd (w : World) (xs : List Bs) (s : Bs) (e : Ending) (w' : World) : Prop :=
  ∃ v ys, e = .returned v ∧ RowV w' v (ys.map strV) ∧ Up ys ∧ (∀ x, x ∈ ys ↔ x ∈ xs ∨ x = s) ∧ ys.length = xs.length + (if s ∈ xs then 0 else 1) ∧ Kept NoBlock w w'

theorem into_new {xs : List Bs} {s : Bs} {k : Nat} (h : Up xs) (hk : k ≤ xs.length) (h1 : ∀ (j : Nat) x, j < k → xs[j]? = some x → ltB x s = true) (h2 : ∀ (j : Nat) x, k ≤ j → xs[j]? = some x → ltB x s = false) (h3 : ∀ x, xs[k]? = some x → x ≠ s) :
    Up ([] ++ xs.take k ++ [s] ++ xs.drop k) ∧ (∀ x, x ∈ [] ++ xs.take k ++ [s] ++ xs.drop k ↔ x ∈ xs ∨ x = s) ∧ ([] ++ xs.take k ++ [s] ++ xs.drop k).length = xs.length + (if s ∈ xs then 0 else 1) := by
  have h4 : ∀ (j : Nat) x, k ≤ j → xs[j]? = some x → ltB s x = true := fun j x hj hx => by
    have hkl : k < xs.length := by have := (List.getElem?_eq_some_iff.1 hx).1; omega
    obtain ⟨y, hy⟩ : ∃ y, xs[k]? = some y := ⟨_, List.getElem?_eq_getElem hkl⟩
    have hsy := ltB_or (h2 k y (Nat.le_refl _) hy) (h3 y hy)
    by_cases he : j = k
    · subst he
      rw [hx] at hy; cases hy
      exact hsy
    · exact ltB_trans _ _ _ hsy (h.at (by omega) hy hx)
  refine ⟨ins_up h h1 h4, fun x => ins_mem x, ?_⟩
  have hn : s ∉ xs := fun hm => by
    obtain ⟨j, hj⟩ := List.getElem?_of_mem hm
    by_cases hjk : j < k
    · have := h1 j s hjk hj
      rw [ltB_irr] at this; cases this
    · have := h4 j s (by omega) hj
      rw [ltB_irr] at this; cases this
  rw [if_neg hn]
  simp only [List.length_append, List.length_take, List.length_drop, List.length_cons, List.length_nil]
  omega
theorem strV_one (L : List Bs) : ∀ u ∈ L.map strV, u.oneCell' = true := fun u hu => by
  obtain ⟨x, _, rfl⟩ := List.mem_map.1 hu
  rfl

theorem wpList_appS {w : World} {ops : Array Oper} {rest : List Oper} {o : Oper} {a : Act} {Q : Exit → Act → World → Prop} (hgd : o.guard = none) (sl x : Operand)
    (ho : o.op = .call { callee := .builtin .append, args := #[sl, x], argTypes := #[50, 50] })
    (base : Nat) (v : Value) (xs : List Bs) (hs : a.eval sl = v) (hown : OwnM w base 9 v xs.length (xs.map strV)) (u : Value) (p : List Bs) (hx : a.eval x = u) (hb : RowV w u (p.map strV)) (hlen : xs.length + p.length ≤ 1000000000) (hbase : base ≤ w.heap.size)
    (h : ∀ v' w', OwnM w' base 9 v' (xs ++ p).length ((xs ++ p).map strV) → w.grownBy w' v.ownBlock → wpList Tryd.prog ops Q rest (a.put o.dst v') w') : wpList Tryd.prog ops Q (o :: rest) a w := by
  obtain ⟨i0, hi, hz0, hz1, hz2⟩ := info_parts strInfo
  obtain ⟨ap, cap, rfl, _, _⟩ := hb.parts
  obtain ⟨hH, hl, hc, hn⟩ := RowV.holds hb
  rw [List.length_map] at hx hH hl hc
  refine wpList_append_M (P := Tryd.prog) w hgd sl x 50 ho base 9 i0 _ 16 Tryd.underlying50 hi hz0 hz1 hz2 rfl v xs.length (xs.map strV) hs hown ap p.length cap (p.map strV) hx hH hn (strV_one p) (by unfold maxLen; omega) (by omega) hbase ?_
  intro v' w' hr hg
  refine h v' w' ?_ hg
  rw [List.length_append, List.map_append]
  exact hr

theorem own0 (w : World) : OwnM (w.alloc (.cells #[] 9)) w.heap.size 9 (.slice (some ⟨w.heap.size, 0, none⟩) 0 0) ([] : List Bs).length (([] : List Bs).map strV) :=
  ⟨rfl, .inr ⟨_, 0, #[], (0, 0), rfl, Nat.le_refl _, heap_alloc_new w _, .inl (Nat.le_refl _), Nat.le_refl _, Nat.zero_le _, rfl, rfl⟩⟩
theorem row_one {w : World} {b : Nat} {s : Bs} {S : ByteArray} {T : TypeId} (hS : S = ⟨s.toArray⟩) (h : w.heap[b]? = some (.cells #[.string S] T (0, 0))) : RowV w (.slice (some ⟨b, 0, none⟩) 1 1) ([s].map strV) := by
  refine RowV.mk ⟨rfl, fun _ => ⟨_, rfl, fun j v hj => ?_⟩⟩ (Nat.le_refl _) (fun h => by cases h)
  rw [addr_add, Nat.zero_add]
  subst hS
  exact cellB h (by simpa [strV] using hj)

set_option maxRecDepth 100000 in
set_option maxHeartbeats 1600000 in
theorem rInto (v : Value) (xs : List Bs) (s : Bs) (w : World) (h : RowV w v (xs.map strV)) (hp : Up xs) (hn : xs.length ≤ 70000000) :
    Calls Tryd.prog 88 #[v, strV s] w (IntoEnd w xs s) := by
  obtain ⟨ap, cap, rfl, _⟩ := h.parts
  have HROW := Lib.hid h
  have HP := Lib.hid hp
  rw [List.length_map] at HROW ⊢
  obtain ⟨n, hnn⟩ : ∃ n, n = xs.length := ⟨_, rfl⟩
  rw [← hnn] at hn HROW ⊢
  have HN := Lib.hid hnn
  obtain ⟨S, hS⟩ : ∃ S : ByteArray, S = ⟨s.toArray⟩ := ⟨_, rfl⟩
  unfold strV
  rw [← hS]
  have HS := Lib.hid hS
  clear hnn h hp hS
  go_enter Tryd.func88, Tryd.ntmps88
  go_wp2_with fail
  go_loopw [5, 6, 7] (fun v5 v6 v7 wr => ∃ lo hi : Nat, v5 = .int .i64 lo ∧ v6 = .int .i64 hi ∧ lo ≤ hi ∧ hi ≤ n ∧ (∀ (j : Nat) x, j < lo → xs[j]? = some x → ltB x s = true) ∧ (∀ (j : Nat) x, hi ≤ j → xs[j]? = some x → ltB x s = false) ∧ wr = w) (fun v5 v6 _ _ => (intOf v6).toNat - (intOf v5).toNat)
  case atStart => exact ⟨0, n, rfl, rfl, Nat.zero_le _, Nat.le_refl _, fun j x hj => by omega, fun j x hj hx => by have := (List.getElem?_eq_some_iff.1 hx).1; have := HN.out; omega, rfl⟩
  case round =>
    obtain ⟨lo, hi, rfl, rfl, hle, hhi, h1, h2, rfl⟩ := hrel
    have H1 := Lib.hid h1
    have H2 := Lib.hid h2
    clear h1 h2
    by_cases hlt : lo < hi
    · obtain ⟨k, hk⟩ : ∃ k : Nat, k = (lo + hi) / 2 := ⟨_, rfl⟩
      have hk1 : lo ≤ k := by omega
      have hk2 : k < hi := by omega
      have hkn : k < n := by omega
      have hq : ((lo : Int) + (hi : Int)).tdiv 2 = (k : Int) := by
        rw [hk, show ((lo : Int) + (hi : Int)) = (((lo + hi : Nat)) : Int) by omega]
        rw [Int.tdiv_eq_ediv_of_nonneg (by omega)]
        omega
      obtain ⟨a, ha⟩ : ∃ a, xs[k]? = some a := ⟨xs[k]'(by have := HN.out; omega), List.getElem?_eq_getElem _⟩
      obtain ⟨ad, rfl, a0⟩ := RowV.cell HROW.out (row_map ha)
      obtain ⟨T, hT⟩ : ∃ S : ByteArray, S = ⟨a.toArray⟩ := ⟨_, rfl⟩
      unfold strV at a0
      rw [← hT] at a0
      have hless := str_less hT HS.out
      have HA := Lib.hid ha
      have HK := Lib.hid hk
      clear ha hT hk
      cases hl : ltB a s with
      | true =>
        rw [hl] at hless
        have HL1 : Hid (∀ (j : Nat) x, j < k + 1 → xs[j]? = some x → ltB x s = true) := Lib.hid (fun j x hj hx => by
          by_cases he : j = k
          · subst he; rw [HA.out] at hx; cases hx; exact hl
          · exact ltB_trans _ _ _ (HP.out.at (by omega) hx HA.out) hl)
        clear hl
        go_wp2_with fail
        go_roundw
        case rel => exact ⟨k + 1, hi, by go_num, rfl, by omega, hhi, HL1.out, H2.out, trivial⟩
        case measure => simp [intOf]; omega
      | false =>
        rw [hl] at hless
        have HL1 : Hid (∀ (j : Nat) x, k ≤ j → xs[j]? = some x → ltB x s = false) := Lib.hid (fun j x hj hx => by
          by_cases he : j = k
          · subst he; rw [HA.out] at hx; cases hx; exact hl
          · have h3 := HP.out.at (by omega) HA.out hx
            cases h4 : ltB x s with
            | false => rfl
            | true => have h5 := ltB_trans _ _ _ h3 h4; rw [hl] at h5; cases h5)
        clear hl
        go_wp2_with fail
        go_roundw
        case rel => exact ⟨lo, k, rfl, by go_num, by omega, by omega, H1.out, HL1.out, trivial⟩
        case measure => simp [intOf]; omega
    · obtain rfl : lo = hi := by omega
      have hnew : (∀ x, xs[lo]? = some x → x ≠ s) → ∀ v' w', OwnM w' wr.heap.size 9 v' ([] ++ xs.take lo ++ [s] ++ xs.drop lo).length (([] ++ xs.take lo ++ [s] ++ xs.drop lo).map strV) → Kept NoBlock wr w' → IntoEnd wr xs s (.returned v') w' := fun h3 v' w' ho hk => by
        obtain ⟨g1, g2, g3⟩ := into_new HP.out (by have := HN.out; omega) H1.out H2.out h3
        exact ⟨v', _, rfl, OwnM.row ho, g1, g2, g3, hk⟩
      have hcap : n ≤ cap := by have := HROW.out.holds; rw [List.length_map] at this; omega
      have hlon : lo ≤ n := hhi
      have hlc : lo ≤ cap := by omega
      have hfr := RowV.front HROW.out lo hlon
      have hta := RowV.tail HROW.out lo hlon
      rw [← List.map_take] at hfr
      rw [← List.map_drop] at hta
      have HFR := Lib.hid hfr
      have HTA := Lib.hid hta
      clear hfr hta
      by_cases hln : lo < n
      · obtain ⟨a, ha⟩ : ∃ a, xs[lo]? = some a := ⟨xs[lo]'(by have := HN.out; omega), List.getElem?_eq_getElem _⟩
        obtain ⟨ad, rfl, a0⟩ := RowV.cell HROW.out (row_map ha)
        obtain ⟨T, hT⟩ : ∃ S : ByteArray, S = ⟨a.toArray⟩ := ⟨_, rfl⟩
        unfold strV at a0
        rw [← hT] at a0
        have hbeq := str_beq hT HS.out
        by_cases hes : a = s
        · rw [decide_eq_true hes] at hbeq
          subst hes
          have HA := Lib.hid ha
          clear ha hT
          go_wp2_with fail
          go_ret
          exact ⟨_, xs, rfl, HROW.out, HP.out, fun x => ⟨.inl, fun h => h.elim id (fun e => e ▸ List.mem_of_getElem? HA.out)⟩, by rw [if_pos (List.mem_of_getElem? HA.out)]; rfl, Kept.refl _ _⟩
        · rw [decide_eq_false hes] at hbeq
          have HNW := Lib.hid (hnew (fun x hx => by rw [ha] at hx; cases hx; exact hes))
          clear ha hT hnew
          go_wp2_with fail
          clear a0 hbeq
          refine wp_tree (fun _ => True) 12 (.flt 1 (.flt 2 (.flt 3 (.flt 5 (.flt 8 (.flt 9 (.flt 10 (.two 0 (.two 4 (.seg 6 (.seg 7 (.seg 11 (.fin [12])))) 6 (.seg 4 (.seg 7 (.seg 11 (.fin [12]))))) 6 (.seg 0 (.seg 4 (.seg 7 (.seg 11 (.fin [12]))))))))))))) (by kernel_rfl) (by kernel_rfl) (fun _ _ _ dst _ h => by cases dst <;> exact h) (fun _ _ _ => trivial) trivial (fun n0 => ?_)
          repeat (refine tree_flt rfl rfl ?_; apply Exists.intro; refine ⟨fun w' hw' => ?_, ?_⟩; (go_simp; first | rfl | exact ⟨rfl, rfl⟩); simp only [Act.put, List.setIfInBounds_toArray, List.set_cons_succ, List.set_cons_zero])
          have HK1 := Lib.hid ((Kept.refl NoBlock wr).drewN n0)
          have HS1 : wr.heap.size = (wr.drewN n0).heap.size := rfl
          generalize wr.drewN n0 = w1 at *
          refine tree_two rfl rfl ?_ ?_
          · go_wp2_with fail
            have HK0 := Lib.hid (HK1.out.alloc (.cells #[] 9))
            have HO0 := Lib.hid (own0 w1)
            have HZ0 : (w1.alloc (.cells #[] 9)).heap.size = w1.heap.size + 1 := by simp
            generalize w1.alloc (.cells #[] 9) = w0 at *
            refine Halt.mk ⟨.inr trivial, ?_⟩
            refine tree_two rfl rfl ?_ ?_
            · refine wpList_appS rfl _ _ (by rfl) (w1.heap.size) _ [] (by rfl) HO0.out _ (xs.take lo) (by rfl) (HFR.out.keptNo HK0.out) (by rw [List.length_take]; simp only [List.length_nil]; omega) (by have := OwnM.lt HO0.out _ rfl; omega) ?_
              intro v4 w4 ho4 hg4
              have HK4 := Lib.hid (HK0.out.grown hg4 (fun k e hlt => by have := OwnM.lt HO0.out k e; omega))
              have HO4 := Lib.hid ho4
              have HL4 : (w1.heap.size) ≤ w4.heap.size := Nat.le_trans (Nat.le_of_lt (OwnM.lt HO0.out _ rfl).2) hg4.size
              clear ho4
              go_wp2_with fail
              refine Halt.mk ⟨.inr trivial, ?_⟩
              refine tree_seg rfl ?_
              go_wp2_with fail
              have HKW := Lib.hid (HK4.out.alloc (.cells #[.string S] 9))
              have HO := Lib.hid (HO4.out.alloc (.cells #[.string S] 9))
              have HC := Lib.hid (heap_alloc_new w4 (.cells #[.string S] 9))
              have HBZ : w1.heap.size ≤ (w4.alloc (.cells #[.string S] 9)).heap.size := HKW.out.size |> fun h => by omega
              generalize w4.alloc (.cells #[.string S] 9) = W at *
              generalize w4.heap.size = b6 at *
              refine Halt.mk ⟨.inr trivial, ?_⟩
              refine tree_seg rfl ?_
              refine wpList_appS rfl _ _ (by rfl) (w1.heap.size) v4 _ (by rfl) HO.out _ [s] (by rfl) (row_one HS.out HC.out) (by simp only [List.length_append, List.length_take, List.length_nil, List.length_cons]; omega) (by omega) ?_
              intro v7 w7 ho7 hg7
              have HK7 := Lib.hid (HKW.out.grown hg7 (fun k e hlt => by have := OwnM.lt HO.out k e; omega))
              have HO7 := Lib.hid ho7
              have HL7 : (w1.heap.size) ≤ w7.heap.size := Nat.le_trans (by omega) hg7.size
              clear ho7 hg7
              go_wp2_with fail
              refine Halt.mk ⟨.inr trivial, ?_⟩
              refine tree_seg rfl ?_
              refine wpList_appS rfl _ _ (by rfl) (w1.heap.size) v7 _ (by rfl) HO7.out _ (xs.drop lo) (by rfl) (HTA.out.keptNo HK7.out) (by have := HN.out; simp only [List.length_append, List.length_take, List.length_drop, List.length_nil, List.length_cons]; omega) (by omega) ?_
              intro v8 w8 ho8 hg8
              have HK8 := Lib.hid (HK7.out.grown hg8 (fun k e hlt => by have := OwnM.lt HO7.out k e; omega))
              have HO8 := Lib.hid (OwnM.lower ho8 (show wr.heap.size ≤ (w1.heap.size) by omega))
              clear ho8 hg8
              go_wp2_with fail
              refine Halt.mk ⟨.inr trivial, ?_⟩
              refine tree_fin ?_
              simp only [pick, List.filterMap_cons, List.filterMap_nil, List.getElem?_cons_succ, List.getElem?_cons_zero]
              repeat (quiet_step (fail))
              refine wpQuiet_nil ?_
              rintro _ ⟨n9, rfl⟩
              go_wp2_with fail
              go_ret
              exact HNW.out _ _ (HO8.out.drewN _) (HK8.out.drewN _)
            · go_wp2_with fail
              have HK6 := Lib.hid (HK0.out.alloc (.cells #[.string S] 9))
              have HO6 := Lib.hid (HO0.out.alloc (.cells #[.string S] 9))
              have hc6 := heap_alloc_new w0 (.cells #[.string S] 9)
              rw [HZ0] at hc6
              have HC6 := Lib.hid hc6
              clear hc6
              generalize w0.alloc (.cells #[.string S] 9) = w6 at *
              generalize hb6 : w1.heap.size + 1 = b6 at *
              refine Halt.mk ⟨.inr trivial, ?_⟩
              refine tree_seg rfl ?_
              refine wpList_appS rfl _ _ (by rfl) (w1.heap.size) _ [] (by rfl) HO6.out _ (xs.take lo) (by rfl) (HFR.out.keptNo HK6.out) (by rw [List.length_take]; simp only [List.length_nil]; omega) (by have := OwnM.lt HO6.out _ rfl; omega) ?_
              intro v4 w4 ho4 hg4
              have HK4 := Lib.hid (HK6.out.grown hg4 (fun k e hlt => by have := OwnM.lt HO6.out k e; omega))
              have HO4 := Lib.hid ho4
              have HL4 : (w1.heap.size) ≤ w4.heap.size := Nat.le_trans (Nat.le_of_lt (OwnM.lt HO6.out _ rfl).2) hg4.size
              clear ho4
              go_wp2_with fail
              refine Halt.mk ⟨.inr trivial, ?_⟩
              have HC := Lib.hid (show w4.heap[b6]? = some (.cells #[.string S] 9 (0, 0)) from by rw [hg4.block b6 (lt_of_heap HC6.out) (fun e => by simp [Value.ownBlock] at e <;> omega)]; exact HC6.out)
              have HBZ : w1.heap.size ≤ w4.heap.size := HK4.out.size |> fun h => by omega
              have HKW := HK4
              have HO := HO4
              refine tree_seg rfl ?_
              refine wpList_appS rfl _ _ (by rfl) (w1.heap.size) v4 _ (by rfl) HO.out _ [s] (by rfl) (row_one HS.out HC.out) (by simp only [List.length_append, List.length_take, List.length_nil, List.length_cons]; omega) (by omega) ?_
              intro v7 w7 ho7 hg7
              have HK7 := Lib.hid (HKW.out.grown hg7 (fun k e hlt => by have := OwnM.lt HO.out k e; omega))
              have HO7 := Lib.hid ho7
              have HL7 : (w1.heap.size) ≤ w7.heap.size := Nat.le_trans (by omega) hg7.size
              clear ho7 hg7
              go_wp2_with fail
              refine Halt.mk ⟨.inr trivial, ?_⟩
              refine tree_seg rfl ?_
              refine wpList_appS rfl _ _ (by rfl) (w1.heap.size) v7 _ (by rfl) HO7.out _ (xs.drop lo) (by rfl) (HTA.out.keptNo HK7.out) (by have := HN.out; simp only [List.length_append, List.length_take, List.length_drop, List.length_nil, List.length_cons]; omega) (by omega) ?_
              intro v8 w8 ho8 hg8
              have HK8 := Lib.hid (HK7.out.grown hg8 (fun k e hlt => by have := OwnM.lt HO7.out k e; omega))
              have HO8 := Lib.hid (OwnM.lower ho8 (show wr.heap.size ≤ (w1.heap.size) by omega))
              clear ho8 hg8
              go_wp2_with fail
              refine Halt.mk ⟨.inr trivial, ?_⟩
              refine tree_fin ?_
              simp only [pick, List.filterMap_cons, List.filterMap_nil, List.getElem?_cons_succ, List.getElem?_cons_zero]
              repeat (quiet_step (fail))
              refine wpQuiet_nil ?_
              rintro _ ⟨n9, rfl⟩
              go_wp2_with fail
              go_ret
              exact HNW.out _ _ (HO8.out.drewN _) (HK8.out.drewN _)
          · go_wp2_with fail
            have HK6 := Lib.hid (HK1.out.alloc (.cells #[.string S] 9))
            have HC6 := Lib.hid (heap_alloc_new w1 (.cells #[.string S] 9))
            have HZ6 : (w1.alloc (.cells #[.string S] 9)).heap.size = w1.heap.size + 1 := by simp
            generalize w1.alloc (.cells #[.string S] 9) = w6 at *
            refine Halt.mk ⟨.inr trivial, ?_⟩
            refine tree_seg rfl ?_
            go_wp2_with fail
            have HK0 := Lib.hid (HK6.out.alloc (.cells #[] 9))
            have ho0 := own0 w6
            rw [HZ6] at ho0
            have HO0 := Lib.hid ho0
            clear ho0
            have HC0 := Lib.hid (((Kept.refl NoBlock w6).alloc (.cells #[] 9)).heap HC6.out (fun h => h))
            generalize w6.alloc (.cells #[] 9) = w0 at *
            refine Halt.mk ⟨.inr trivial, ?_⟩
            refine tree_seg rfl ?_
            generalize hb6 : w1.heap.size = b6 at *
            refine wpList_appS rfl _ _ (by rfl) (b6 + 1) _ [] (by rfl) HO0.out _ (xs.take lo) (by rfl) (HFR.out.keptNo HK0.out) (by rw [List.length_take]; simp only [List.length_nil]; omega) (by have := OwnM.lt HO0.out _ rfl; omega) ?_
            intro v4 w4 ho4 hg4
            have HK4 := Lib.hid (HK0.out.grown hg4 (fun k e hlt => by have := OwnM.lt HO0.out k e; omega))
            have HO4 := Lib.hid ho4
            have HL4 : (b6 + 1) ≤ w4.heap.size := Nat.le_trans (Nat.le_of_lt (OwnM.lt HO0.out _ rfl).2) hg4.size
            clear ho4
            go_wp2_with fail
            refine Halt.mk ⟨.inr trivial, ?_⟩
            have HC := Lib.hid (show w4.heap[b6]? = some (.cells #[.string S] 9 (0, 0)) from by rw [hg4.block b6 (lt_of_heap HC0.out) (fun e => by simp [Value.ownBlock] at e <;> omega)]; exact HC0.out)
            have HKW := HK4
            have HO := HO4
            refine tree_seg rfl ?_
            refine wpList_appS rfl _ _ (by rfl) (b6 + 1) v4 _ (by rfl) HO.out _ [s] (by rfl) (row_one HS.out HC.out) (by simp only [List.length_append, List.length_take, List.length_nil, List.length_cons]; omega) (by omega) ?_
            intro v7 w7 ho7 hg7
            have HK7 := Lib.hid (HKW.out.grown hg7 (fun k e hlt => by have := OwnM.lt HO.out k e; omega))
            have HO7 := Lib.hid ho7
            have HL7 : (b6 + 1) ≤ w7.heap.size := Nat.le_trans (by omega) hg7.size
            clear ho7 hg7
            go_wp2_with fail
            refine Halt.mk ⟨.inr trivial, ?_⟩
            refine tree_seg rfl ?_
            refine wpList_appS rfl _ _ (by rfl) (b6 + 1) v7 _ (by rfl) HO7.out _ (xs.drop lo) (by rfl) (HTA.out.keptNo HK7.out) (by have := HN.out; simp only [List.length_append, List.length_take, List.length_drop, List.length_nil, List.length_cons]; omega) (by omega) ?_
            intro v8 w8 ho8 hg8
            have HK8 := Lib.hid (HK7.out.grown hg8 (fun k e hlt => by have := OwnM.lt HO7.out k e; omega))
            have HO8 := Lib.hid (OwnM.lower ho8 (show wr.heap.size ≤ (b6 + 1) by omega))
            clear ho8 hg8
            go_wp2_with fail
            refine Halt.mk ⟨.inr trivial, ?_⟩
            refine tree_fin ?_
            simp only [pick, List.filterMap_cons, List.filterMap_nil, List.getElem?_cons_succ, List.getElem?_cons_zero]
            repeat (quiet_step (fail))
            refine wpQuiet_nil ?_
            rintro _ ⟨n9, rfl⟩
            go_wp2_with fail
            go_ret
            exact HNW.out _ _ (HO8.out.drewN _) (HK8.out.drewN _)
      · have HNW := Lib.hid (hnew (fun x hx => by have := (List.getElem?_eq_some_iff.1 hx).1; have := HN.out; omega))
        clear hnew
        go_wp2_with fail
        refine wp_tree (fun _ => True) 12 (.flt 1 (.flt 2 (.flt 3 (.flt 5 (.flt 8 (.flt 9 (.flt 10 (.two 0 (.two 4 (.seg 6 (.seg 7 (.seg 11 (.fin [12])))) 6 (.seg 4 (.seg 7 (.seg 11 (.fin [12]))))) 6 (.seg 0 (.seg 4 (.seg 7 (.seg 11 (.fin [12]))))))))))))) (by kernel_rfl) (by kernel_rfl) (fun _ _ _ dst _ h => by cases dst <;> exact h) (fun _ _ _ => trivial) trivial (fun n0 => ?_)
        repeat (refine tree_flt rfl rfl ?_; apply Exists.intro; refine ⟨fun w' hw' => ?_, ?_⟩; (go_simp; first | rfl | exact ⟨rfl, rfl⟩); simp only [Act.put, List.setIfInBounds_toArray, List.set_cons_succ, List.set_cons_zero])
        have HK1 := Lib.hid ((Kept.refl NoBlock wr).drewN n0)
        have HS1 : wr.heap.size = (wr.drewN n0).heap.size := rfl
        generalize wr.drewN n0 = w1 at *
        refine tree_two rfl rfl ?_ ?_
        · go_wp2_with fail
          have HK0 := Lib.hid (HK1.out.alloc (.cells #[] 9))
          have HO0 := Lib.hid (own0 w1)
          have HZ0 : (w1.alloc (.cells #[] 9)).heap.size = w1.heap.size + 1 := by simp
          generalize w1.alloc (.cells #[] 9) = w0 at *
          refine Halt.mk ⟨.inr trivial, ?_⟩
          refine tree_two rfl rfl ?_ ?_
          · refine wpList_appS rfl _ _ (by rfl) (w1.heap.size) _ [] (by rfl) HO0.out _ (xs.take lo) (by rfl) (HFR.out.keptNo HK0.out) (by rw [List.length_take]; simp only [List.length_nil]; omega) (by have := OwnM.lt HO0.out _ rfl; omega) ?_
            intro v4 w4 ho4 hg4
            have HK4 := Lib.hid (HK0.out.grown hg4 (fun k e hlt => by have := OwnM.lt HO0.out k e; omega))
            have HO4 := Lib.hid ho4
            have HL4 : (w1.heap.size) ≤ w4.heap.size := Nat.le_trans (Nat.le_of_lt (OwnM.lt HO0.out _ rfl).2) hg4.size
            clear ho4
            go_wp2_with fail
            refine Halt.mk ⟨.inr trivial, ?_⟩
            refine tree_seg rfl ?_
            go_wp2_with fail
            have HKW := Lib.hid (HK4.out.alloc (.cells #[.string S] 9))
            have HO := Lib.hid (HO4.out.alloc (.cells #[.string S] 9))
            have HC := Lib.hid (heap_alloc_new w4 (.cells #[.string S] 9))
            have HBZ : w1.heap.size ≤ (w4.alloc (.cells #[.string S] 9)).heap.size := HKW.out.size |> fun h => by omega
            generalize w4.alloc (.cells #[.string S] 9) = W at *
            generalize w4.heap.size = b6 at *
            refine Halt.mk ⟨.inr trivial, ?_⟩
            refine tree_seg rfl ?_
            refine wpList_appS rfl _ _ (by rfl) (w1.heap.size) v4 _ (by rfl) HO.out _ [s] (by rfl) (row_one HS.out HC.out) (by simp only [List.length_append, List.length_take, List.length_nil, List.length_cons]; omega) (by omega) ?_
            intro v7 w7 ho7 hg7
            have HK7 := Lib.hid (HKW.out.grown hg7 (fun k e hlt => by have := OwnM.lt HO.out k e; omega))
            have HO7 := Lib.hid ho7
            have HL7 : (w1.heap.size) ≤ w7.heap.size := Nat.le_trans (by omega) hg7.size
            clear ho7 hg7
            go_wp2_with fail
            refine Halt.mk ⟨.inr trivial, ?_⟩
            refine tree_seg rfl ?_
            refine wpList_appS rfl _ _ (by rfl) (w1.heap.size) v7 _ (by rfl) HO7.out _ (xs.drop lo) (by rfl) (HTA.out.keptNo HK7.out) (by have := HN.out; simp only [List.length_append, List.length_take, List.length_drop, List.length_nil, List.length_cons]; omega) (by omega) ?_
            intro v8 w8 ho8 hg8
            have HK8 := Lib.hid (HK7.out.grown hg8 (fun k e hlt => by have := OwnM.lt HO7.out k e; omega))
            have HO8 := Lib.hid (OwnM.lower ho8 (show wr.heap.size ≤ (w1.heap.size) by omega))
            clear ho8 hg8
            go_wp2_with fail
            refine Halt.mk ⟨.inr trivial, ?_⟩
            refine tree_fin ?_
            simp only [pick, List.filterMap_cons, List.filterMap_nil, List.getElem?_cons_succ, List.getElem?_cons_zero]
            repeat (quiet_step (fail))
            refine wpQuiet_nil ?_
            rintro _ ⟨n9, rfl⟩
            go_wp2_with fail
            go_ret
            exact HNW.out _ _ (HO8.out.drewN _) (HK8.out.drewN _)
          · go_wp2_with fail
            have HK6 := Lib.hid (HK0.out.alloc (.cells #[.string S] 9))
            have HO6 := Lib.hid (HO0.out.alloc (.cells #[.string S] 9))
            have hc6 := heap_alloc_new w0 (.cells #[.string S] 9)
            rw [HZ0] at hc6
            have HC6 := Lib.hid hc6
            clear hc6
            generalize w0.alloc (.cells #[.string S] 9) = w6 at *
            generalize hb6 : w1.heap.size + 1 = b6 at *
            refine Halt.mk ⟨.inr trivial, ?_⟩
            refine tree_seg rfl ?_
            refine wpList_appS rfl _ _ (by rfl) (w1.heap.size) _ [] (by rfl) HO6.out _ (xs.take lo) (by rfl) (HFR.out.keptNo HK6.out) (by rw [List.length_take]; simp only [List.length_nil]; omega) (by have := OwnM.lt HO6.out _ rfl; omega) ?_
            intro v4 w4 ho4 hg4
            have HK4 := Lib.hid (HK6.out.grown hg4 (fun k e hlt => by have := OwnM.lt HO6.out k e; omega))
            have HO4 := Lib.hid ho4
            have HL4 : (w1.heap.size) ≤ w4.heap.size := Nat.le_trans (Nat.le_of_lt (OwnM.lt HO6.out _ rfl).2) hg4.size
            clear ho4
            go_wp2_with fail
            refine Halt.mk ⟨.inr trivial, ?_⟩
            have HC := Lib.hid (show w4.heap[b6]? = some (.cells #[.string S] 9 (0, 0)) from by rw [hg4.block b6 (lt_of_heap HC6.out) (fun e => by simp [Value.ownBlock] at e <;> omega)]; exact HC6.out)
            have HBZ : w1.heap.size ≤ w4.heap.size := HK4.out.size |> fun h => by omega
            have HKW := HK4
            have HO := HO4
            refine tree_seg rfl ?_
            refine wpList_appS rfl _ _ (by rfl) (w1.heap.size) v4 _ (by rfl) HO.out _ [s] (by rfl) (row_one HS.out HC.out) (by simp only [List.length_append, List.length_take, List.length_nil, List.length_cons]; omega) (by omega) ?_
            intro v7 w7 ho7 hg7
            have HK7 := Lib.hid (HKW.out.grown hg7 (fun k e hlt => by have := OwnM.lt HO.out k e; omega))
            have HO7 := Lib.hid ho7
            have HL7 : (w1.heap.size) ≤ w7.heap.size := Nat.le_trans (by omega) hg7.size
            clear ho7 hg7
            go_wp2_with fail
            refine Halt.mk ⟨.inr trivial, ?_⟩
            refine tree_seg rfl ?_
            refine wpList_appS rfl _ _ (by rfl) (w1.heap.size) v7 _ (by rfl) HO7.out _ (xs.drop lo) (by rfl) (HTA.out.keptNo HK7.out) (by have := HN.out; simp only [List.length_append, List.length_take, List.length_drop, List.length_nil, List.length_cons]; omega) (by omega) ?_
            intro v8 w8 ho8 hg8
            have HK8 := Lib.hid (HK7.out.grown hg8 (fun k e hlt => by have := OwnM.lt HO7.out k e; omega))
            have HO8 := Lib.hid (OwnM.lower ho8 (show wr.heap.size ≤ (w1.heap.size) by omega))
            clear ho8 hg8
            go_wp2_with fail
            refine Halt.mk ⟨.inr trivial, ?_⟩
            refine tree_fin ?_
            simp only [pick, List.filterMap_cons, List.filterMap_nil, List.getElem?_cons_succ, List.getElem?_cons_zero]
            repeat (quiet_step (fail))
            refine wpQuiet_nil ?_
            rintro _ ⟨n9, rfl⟩
            go_wp2_with fail
            go_ret
            exact HNW.out _ _ (HO8.out.drewN _) (HK8.out.drewN _)
        · go_wp2_with fail
          have HK6 := Lib.hid (HK1.out.alloc (.cells #[.string S] 9))
          have HC6 := Lib.hid (heap_alloc_new w1 (.cells #[.string S] 9))
          have HZ6 : (w1.alloc (.cells #[.string S] 9)).heap.size = w1.heap.size + 1 := by simp
          generalize w1.alloc (.cells #[.string S] 9) = w6 at *
          refine Halt.mk ⟨.inr trivial, ?_⟩
          refine tree_seg rfl ?_
          go_wp2_with fail
          have HK0 := Lib.hid (HK6.out.alloc (.cells #[] 9))
          have ho0 := own0 w6
          rw [HZ6] at ho0
          have HO0 := Lib.hid ho0
          clear ho0
          have HC0 := Lib.hid (((Kept.refl NoBlock w6).alloc (.cells #[] 9)).heap HC6.out (fun h => h))
          generalize w6.alloc (.cells #[] 9) = w0 at *
          refine Halt.mk ⟨.inr trivial, ?_⟩
          refine tree_seg rfl ?_
          generalize hb6 : w1.heap.size = b6 at *
          refine wpList_appS rfl _ _ (by rfl) (b6 + 1) _ [] (by rfl) HO0.out _ (xs.take lo) (by rfl) (HFR.out.keptNo HK0.out) (by rw [List.length_take]; simp only [List.length_nil]; omega) (by have := OwnM.lt HO0.out _ rfl; omega) ?_
          intro v4 w4 ho4 hg4
          have HK4 := Lib.hid (HK0.out.grown hg4 (fun k e hlt => by have := OwnM.lt HO0.out k e; omega))
          have HO4 := Lib.hid ho4
          have HL4 : (b6 + 1) ≤ w4.heap.size := Nat.le_trans (Nat.le_of_lt (OwnM.lt HO0.out _ rfl).2) hg4.size
          clear ho4
          go_wp2_with fail
          refine Halt.mk ⟨.inr trivial, ?_⟩
          have HC := Lib.hid (show w4.heap[b6]? = some (.cells #[.string S] 9 (0, 0)) from by rw [hg4.block b6 (lt_of_heap HC0.out) (fun e => by simp [Value.ownBlock] at e <;> omega)]; exact HC0.out)
          have HKW := HK4
          have HO := HO4
          refine tree_seg rfl ?_
          refine wpList_appS rfl _ _ (by rfl) (b6 + 1) v4 _ (by rfl) HO.out _ [s] (by rfl) (row_one HS.out HC.out) (by simp only [List.length_append, List.length_take, List.length_nil, List.length_cons]; omega) (by omega) ?_
          intro v7 w7 ho7 hg7
          have HK7 := Lib.hid (HKW.out.grown hg7 (fun k e hlt => by have := OwnM.lt HO.out k e; omega))
          have HO7 := Lib.hid ho7
          have HL7 : (b6 + 1) ≤ w7.heap.size := Nat.le_trans (by omega) hg7.size
          clear ho7 hg7
          go_wp2_with fail
          refine Halt.mk ⟨.inr trivial, ?_⟩
          refine tree_seg rfl ?_
          refine wpList_appS rfl _ _ (by rfl) (b6 + 1) v7 _ (by rfl) HO7.out _ (xs.drop lo) (by rfl) (HTA.out.keptNo HK7.out) (by have := HN.out; simp only [List.length_append, List.length_take, List.length_drop, List.length_nil, List.length_cons]; omega) (by omega) ?_
          intro v8 w8 ho8 hg8
          have HK8 := Lib.hid (HK7.out.grown hg8 (fun k e hlt => by have := OwnM.lt HO7.out k e; omega))
          have HO8 := Lib.hid (OwnM.lower ho8 (show wr.heap.size ≤ (b6 + 1) by omega))
          clear ho8 hg8
          go_wp2_with fail
          refine Halt.mk ⟨.inr trivial, ?_⟩
          refine tree_fin ?_
          simp only [pick, List.filterMap_cons, List.filterMap_nil, List.getElem?_cons_succ, List.getElem?_cons_zero]
          repeat (quiet_step (fail))
          refine wpQuiet_nil ?_
          rintro _ ⟨n9, rfl⟩
          go_wp2_with fail
          go_ret
          exact HNW.out _ _ (HO8.out.drewN _) (HK8.out.drewN _)
-- Into ends

theorem twice_next {zs : List (Bs × Int)} {i : Nat} {z : Bs × Int} {m ys : List Bs} (hz : zs[i]? = some z) (h1 : ∀ x, x ∈ m ↔ x ∈ (zs.take i).map (·.1)) (h2 : m.length ≤ i) (h3 : m.length = i ↔ distinctB ((zs.take i).map (·.1)) = true)
    (h4 : ∀ x, x ∈ ys ↔ x ∈ m ∨ x = z.1) (h5 : ys.length = m.length + (if z.1 ∈ m then 0 else 1)) :
    (∀ x, x ∈ ys ↔ x ∈ (zs.take (i + 1)).map (·.1)) ∧ ys.length ≤ i + 1 ∧ (ys.length = i + 1 ↔ distinctB ((zs.take (i + 1)).map (·.1)) = true) := by
  obtain ⟨hl, e⟩ := List.getElem?_eq_some_iff.1 hz
  have ht : (zs.take (i + 1)).map (·.1) = (zs.take i).map (·.1) ++ [z.1] := by rw [List.take_succ_eq_append_getElem hl, e]; simp
  rw [ht, distinct_snoc]
  refine ⟨fun x => by rw [h4, h1, List.mem_append, List.mem_singleton], by rw [h5]; split <;> omega, ?_⟩
  rw [Bool.and_eq_true, ← h3, h5]
  by_cases hm : z.1 ∈ m
  · rw [if_pos hm]
    have hc : ((zs.take i).map (·.1)).contains z.1 = true := by rw [List.contains_eq_mem, decide_eq_true_eq]; exact (h1 _).1 hm
    rw [hc]
    simp only [Bool.not_true, Bool.false_eq_true, and_false, iff_false]
    omega
  · rw [if_neg hm]
    have hc : ((zs.take i).map (·.1)).contains z.1 = false := by rw [List.contains_eq_mem, decide_eq_false_iff_not]; exact fun h => hm ((h1 _).2 h)
    rw [hc]
    simp

set_option maxRecDepth 100000 in
theorem rtwice (v : Value) (zs : List (Bs × Int)) (w : World) (h : RowK 2 zCells w v zs) (hn : zs.length ≤ 70000000) :
    Calls Tryd.prog 84 #[v] w fun e w' => e = .returned (.bool (!distinctB (zs.map (·.1)))) ∧ Kept NoBlock w w' := by
  obtain ⟨ap, cap, rfl, _⟩ := h.parts
  generalize hM : distinctB (zs.map (·.1)) = M
  have HM := Lib.hid hM
  have HROW := Lib.hid h
  obtain ⟨n, hnn⟩ : ∃ n, n = zs.length := ⟨_, rfl⟩
  rw [← hnn] at hn HROW ⊢
  have HN := Lib.hid hnn
  clear hM hnn h
  go_enter Tryd.func84, Tryd.ntmps84
  go_wp2_with fail
  go_loopw [3, 4] (fun v3 v4 wr => ∃ (i : Nat) (m : List Bs), v4 = .int .i64 i ∧ i ≤ n ∧ RowV wr v3 (m.map strV) ∧ Up m ∧ (∀ x, x ∈ m ↔ x ∈ (zs.take i).map (·.1)) ∧ m.length ≤ i ∧ (m.length = i ↔ distinctB ((zs.take i).map (·.1)) = true) ∧ Kept NoBlock w wr) (fun _ v4 _ => n - (intOf v4).toNat)
  case atStart => exact ⟨0, [], rfl, Nat.zero_le _, RowV.nil _, List.Pairwise.nil, fun x => by simp, Nat.le_refl _, by simp [distinctB], Kept.refl _ _⟩
  case round =>
    obtain ⟨i, m, rfl, hi, hrow, hup, h1, h2, h3, hk⟩ := hrel
    have HK := Lib.hid hk
    by_cases hlt : i < n
    · have hil : i < zs.length := by have := HN.out; omega
      obtain ⟨z, hz⟩ : ∃ a, zs[i]? = some a := ⟨zs[i], List.getElem?_eq_getElem hil⟩
      obtain ⟨ad, rfl, a0, a1⟩ := agg_two (fun _ => rfl) (HROW.out.kept HK.out) hz rfl
      obtain ⟨S, hS⟩ : ∃ S : ByteArray, S = ⟨z.1.toArray⟩ := ⟨_, rfl⟩
      have hI := rInto _ m z.1 _ hrow hup (by omega)
      unfold strV at a0 hI
      rw [← hS] at a0 hI
      have HI := Lib.hid hI
      have HNX := Lib.hid (fun ys => @twice_next zs i z m ys hz h1 h2 h3)
      clear hI hS h1 h2 h3 hz hil hrow hup hk
      go_wp2_with fail
      clear a0 a1
      (with_reducible refine HI.out.mono ?_)
      rintro e w2 ⟨v2, ys, rfl, hrow2, hup2, hm2, hl2, hk2⟩
      obtain ⟨g1, g2, g3⟩ := HNX.out ys hm2 hl2
      have HE := Lib.hid (⟨hrow2, hup2, g1, g2, g3, HK.out.trans hk2⟩ : RowV w2 v2 (ys.map strV) ∧ Up ys ∧ (∀ x, x ∈ ys ↔ x ∈ (zs.take (i + 1)).map (·.1)) ∧ ys.length ≤ i + 1 ∧ (ys.length = i + 1 ↔ distinctB ((zs.take (i + 1)).map (·.1)) = true) ∧ Kept NoBlock w w2)
      clear hrow2 hup2 hm2 hl2 hk2 g1 g2 g3
      go_wp2_with fail
      go_roundw
      case rel => exact ⟨i + 1, ys, by go_num, by omega, HE.out⟩
      case measure => simp [intOf]; omega
    · obtain rfl : i = n := by omega
      have hfin : (M = true ↔ m.length = i) := by
        rw [h3, ← HM.out, List.take_of_length_le (by have := HN.out; omega)]
      obtain ⟨ap2, cap2, rfl, _⟩ := hrow.parts
      rw [List.length_map]
      clear h1 h3 hrow hup hk
      go_wp2_with fail
      go_ret
      refine ⟨?_, HK.out⟩
      by_cases hml : m.length = i
      · rw [hfin.2 hml]; simp [hml]
      · have : M = false := by cases hMM : M with | false => rfl | true => exact absurd (hfin.1 hMM) hml
        rw [this]; simp [hml]; omega
end Go.Proofs.YtfhlhpknobkplaaDoor
namespace Go.Proofs.YtfhlhpknobkplaaDoor
open Go.RowKit
attribute [local go_sem] fold_part fold_some fold_some' partAt_zero

/-- A guarded operation whose guard says yes. -/
theorem wpList_yes {P : Program} {ops : Array Oper} {rest : List Oper} {o : Oper} {a : Act} {w : World} {Q : Exit → Act → World → Prop} (hw : Region.wanted o (yielded ops a.tmps) = true) (h : wpList P ops Q ({ o with guard := none } :: rest) a w) : wpList P ops Q (o :: rest) a w := by
  rw [wpList, if_pos hw]
  rw [wpList, if_pos (show Region.wanted { o with guard := none } (yielded ops a.tmps) = true from rfl)] at h
  exact h

set_option maxRecDepth 100000 in
set_option maxHeartbeats 1600000 in
theorem law_sums (va vb : Value) (a b : Bs) (w : World) (hV : Vs w) (ha : BytesV w va a) (hb : BytesV w vb b) :
    Calls Tryd.prog 3 #[va, vb] w fun e w' => e = .returned (.bool true) ∧ Kept NoBlock w w' := by
  have hca := pcutB va a w ha
  have hcb := pcutB vb b w hb
  have HV := Lib.hid hV
  have HCA := Lib.hid hca
  have HCB := Lib.hid hcb
  have hal := cutB_le a
  have hbl := cutB_le b
  clear hV hca hcb ha hb
  go_enter Tryd.func3, Tryd.ntmps3
  go_wp2_with fail
  (with_reducible refine HCA.out.mono ?_)
  rintro e w1 ⟨⟨ua, rfl, hA, _⟩, rfl⟩
  go_wp2_with fail
  (with_reducible refine HCB.out.mono ?_)
  rintro e w1 ⟨⟨ub, rfl, hB, _⟩, rfl⟩
  generalize cutB a = A at *
  generalize cutB b = B at *
  obtain ⟨apa, capa, rfl, _⟩ := hA.parts
  obtain ⟨apb, capb, rfl, _⟩ := hB.parts
  have HA := Lib.hid hA
  have HB := Lib.hid hB
  obtain ⟨s, hs⟩ : ∃ s, s = sumB (A ++ B) := ⟨_, rfl⟩
  have HS := Lib.hid hs
  have h2 : ∀ w' (hk : Kept NoBlock w1 w'), Calls Tryd.prog 11 #[.slice (some ⟨w'.heap.size, 0, none⟩) 2 2] (w'.alloc (.cells #[.slice apa A.length capa, .slice apb B.length capb] 22)) (fun e w'' => e = .returned (.int .u32 (s : Nat)) ∧ w'' = w'.alloc (.cells #[.slice apa A.length capa, .slice apb B.length capb] 22)) := fun w' hk => by
    have := psum _ _ _ (HV.out.kept (hk.alloc _)) (matV_two (HA.out.keptNo hk) (HB.out.keptNo hk)) (by simp) (fun p hp => by
      simp only [List.mem_cons, List.not_mem_nil, or_false] at hp
      rcases hp with rfl | rfl <;> (simp only; omega))
    rw [sum_two, ← HS.out] at this
    exact this
  have h3 : ∀ w' (hk : Kept NoBlock w1 w'), Calls Tryd.prog 12 #[.slice (some ⟨w'.heap.size, 0, none⟩) 2 2] (w'.alloc (.cells #[.slice apa A.length capa, .slice apb B.length capb] 22)) (fun e w'' => e = .returned (.int .u32 (s : Nat)) ∧ w'' = w'.alloc (.cells #[.slice apa A.length capa, .slice apb B.length capb] 22)) := fun w' hk => by
    have := rsum _ _ _ (matV_two (HA.out.keptNo hk) (HB.out.keptNo hk)) (by simp) (fun p hp => by
      simp only [List.mem_cons, List.not_mem_nil, or_false] at hp
      rcases hp with rfl | rfl <;> (simp only; omega))
    rw [sum_two, ← HS.out] at this
    exact this
  have H2 := Lib.hid h2
  have H3 := Lib.hid h3
  clear h2 h3 hs hA hB HCA HCB
  go_wp2_with fail
  (with_reducible refine (H2.out w1 (Kept.refl _ _)).mono ?_)
  rintro e w2 ⟨rfl, rfl⟩
  have HK2 := Lib.hid (Kept.allocd w1 (.cells #[.slice apa A.length capa, .slice apb B.length capb] 22))
  generalize w1.alloc (.cells #[.slice apa A.length capa, .slice apb B.length capb] 22) = w2 at *
  go_wp2_with fail
  (with_reducible refine (H3.out w2 HK2.out).mono ?_)
  rintro e w3 ⟨rfl, rfl⟩
  have HK3 := Lib.hid (HK2.out.alloc (.cells #[.slice apa A.length capa, .slice apb B.length capb] 22))
  generalize w2.alloc (.cells #[.slice apa A.length capa, .slice apb B.length capb] 22) = w3 at *
  have HO3 : Hid (OwnT (w3.alloc (.cells #[] 5)) w3.heap.size (.slice (some ⟨w3.heap.size, 0, none⟩) 0 0) []) := Lib.hid (OwnT.fresh w3 [] (by decide))
  have HKX := Lib.hid (HK3.out.alloc (.cells #[] 5))
  have hwx : w1.heap.size ≤ w3.heap.size := HK3.out.size
  go_wp2_with (first
    | (at_builtin; refine wpList_yes (by rfl) ?_; refine wpList_appL rfl _ _ (by rfl) w3.heap.size (.slice (some ⟨w3.heap.size, 0, none⟩) 0 0) [] (by rfl) HO3.out _ A (by rfl) (HA.out.keptNo HKX.out) (by simp; omega) (by simp) ?_; intro v4 w4 hown4 hgr4; obtain ⟨ap4, cap4, rfl, _⟩ := OwnM.form hown4; have HO4 := Lib.hid hown4; have HK4 := Lib.hid (HKX.out.grown hgr4 (fun k e hlt' => by have := (OwnM.lt HO3.out) k e; omega)); have h34 : w3.heap.size ≤ w4.heap.size := by have := hgr4.size; rw [World.size_alloc] at this; omega
       clear hown4 hgr4 HO3; rw [List.nil_append] at HO4 ⊢; refine Hid.out ?_; refine Lib.hid ?_)
    | (at_builtin; refine wpList_yes (by rfl) ?_; refine wpList_appL rfl _ _ (by rfl) w3.heap.size (.slice ap4 A.length cap4) A (by rfl) HO4.out _ B (by rfl) (HB.out.keptNo HK4.out) (by omega) h34 ?_; intro v5 w5 hown5 hgr5; obtain ⟨ap5, cap5, rfl, _⟩ := OwnM.form hown5; have HO5 := Lib.hid hown5; have HK5 := Lib.hid (HK4.out.grown hgr5 (fun k e hlt' => by have := (OwnM.lt HO4.out) k e; omega)); clear hown5 hgr5 HO4; refine Hid.out ?_))
  refine Lib.hid ?_
  have hmat := matV_one HO5.out.bytes
  have hps := psum _ _ _ (HV.out.kept (HK5.out.alloc _)) hmat (by simp) (fun p hp => by obtain rfl := List.mem_singleton.1 hp; simp only [List.length_append]; omega)
  rw [sum_one, ← HS.out, List.length_append] at hps
  have HPS := Lib.hid hps
  have HK6 := Lib.hid (HK5.out.alloc (.cells #[.slice ap5 (A.length + B.length) cap5] 22))
  clear hmat hps
  go_wp2_with fail
  (with_reducible refine HPS.out.mono ?_)
  rintro e w6 ⟨rfl, rfl⟩
  generalize w5.alloc (.cells #[.slice ap5 (A.length + B.length) cap5] 22) = w6 at *
  go_wp2_with fail
  (with_reducible refine (H3.out w6 HK6.out).mono ?_)
  rintro e w7 ⟨rfl, rfl⟩
  have HK7 := Lib.hid (HK6.out.alloc (.cells #[.slice apa A.length capa, .slice apb B.length capb] 22))
  generalize w6.alloc (.cells #[.slice apa A.length capa, .slice apb B.length capb] 22) = w7 at *
  have hnil := psum (.slice none 0 0) [] w7 (HV.out.kept HK7.out) ⟨RowV.nil _, fun p hp => by cases hp⟩ (by simp) (fun p hp => by cases hp)
  rw [show (0xffffffff ^^^ sumL 0xffffffff [] : Nat) = 0 from by decide] at hnil
  rw [show (((0 : Nat) : Int)) = 0 from rfl] at hnil
  have HNI := Lib.hid hnil
  clear hnil
  go_wp2_with fail
  (with_reducible refine HNI.out.mono ?_)
  rintro e w8 ⟨rfl, rfl⟩
  go_wp2_with fail
  (with_reducible refine (lawake w8 (HV.out.kept HK7.out)).mono ?_)
  rintro e w9 ⟨rfl, hk⟩
  have HK9 := Lib.hid (HK7.out.trans hk)
  clear hk
  go_wp2_with fail
  go_ret
  exact ⟨rfl, HK9.out⟩
end Go.Proofs.YtfhlhpknobkplaaDoor
namespace Go.Proofs.YtfhlhpknobkplaaDoor
open Go.RowKit
attribute [local go_sem] fold_part fold_some fold_some' partAt_zero
attribute [local irreducible] wpQuiet

/-- A chosen list, its head written out. -/
theorem pick_cons {l : List Oper} {i : Nat} {H : List Nat} {o : Oper} (ho : l[i]? = some o) : pick l (i :: H) = o :: pick l H := by
  unfold pick
  rw [List.filterMap_cons, ho]
theorem quiet_pick {P : Program} {l : List Oper} {C : World → Prop} {Q : Act → Prop} {i : Nat} {H : List Nat} {o : Oper} {a : Act} (ho : l[i]? = some o) (h : wpQuiet P l.toArray C Q (o :: pick l H) a) : wpQuiet P l.toArray C Q (pick l (i :: H)) a := by
  rw [pick_cons ho]; exact h
theorem list_pick {P : Program} {l : List Oper} {Q : Exit → Act → World → Prop} {b : Nat} {o : Oper} {a : Act} {w : World} (ho : l[b]? = some o) (h : wpList P l.toArray Q [o] a w) : wpList P l.toArray Q (pick l [b]) a w := by
  rw [pick_cons ho]; exact h
/-- A guarded operation whose guard says no. -/
theorem wpList_no {P : Program} {ops : Array Oper} {rest : List Oper} {o : Oper} {a : Act} {w : World} {Q : Exit → Act → World → Prop} (hw : Region.wanted o (yielded ops a.tmps) = false) (h : wpList P ops Q rest (a.put o.dst undef) w) : wpList P ops Q (o :: rest) a w := by
  rw [wpList, if_neg (by rw [hw]; exact Bool.false_ne_true)]
  exact h
def shortZ (z : Bs × Int) : Bool := shortB z.1
set_option maxRecDepth 100000 in
set_option maxHeartbeats 1600000 in
theorem rmembers (v : Value) (L : List (Bs × Int)) (w : World) (h : RowK 2 zCells w v L) (hn : L.length ≤ 70000000) :
    Calls Tryd.prog 76 #[v] w fun e w' => e = .returned (.bool (L.all shortZ && (risesBy ltZ L && distinctB (L.map (·.1))))) ∧ Kept NoBlock w w' := by
  have htw := fun w' (hk : Kept NoBlock w w') => rtwice v L w' (h.kept hk) hn
  obtain ⟨ap, cap, rfl, _⟩ := h.parts
  generalize hD : distinctB (L.map (·.1)) = D at *
  generalize hM : (L.all shortZ && (risesBy ltZ L && D)) = M
  have HM := Lib.hid hM
  have HTW := Lib.hid htw
  have HROW := Lib.hid h
  obtain ⟨n, hnn⟩ : ∃ n, n = L.length := ⟨_, rfl⟩
  rw [← hnn] at hn HROW HTW ⊢
  have HN := Lib.hid hnn
  clear hM hnn h hD htw
  go_enter Tryd.func76, Tryd.ntmps76
  go_wp2_with fail
  go_loopw [3] (fun v3 wr => ∃ i : Nat, v3 = .int .i64 i ∧ i ≤ n ∧ (L.take i).all shortZ = true ∧ RisesTo ltZ L i ∧ Kept NoBlock w wr) (fun v3 _ => n - (intOf v3).toNat)
  case atStart => exact ⟨0, rfl, Nat.zero_le _, rfl, RisesTo.zero _ _, Kept.refl _ _⟩
  case round =>
    obtain ⟨i, rfl, hi, hr, hrr, hk⟩ := hrel
    have HR := Lib.hid hr
    have HRR := Lib.hid hrr
    have HK := Lib.hid hk
    clear hr hrr hk
    by_cases hlt : i < n
    · have hil : i < L.length := by have := HN.out; omega
      obtain ⟨a, ha⟩ : ∃ a, L[i]? = some a := ⟨L[i], List.getElem?_eq_getElem hil⟩
      obtain ⟨ad, rfl, a0, a1⟩ := agg_two (fun _ => rfl) (HROW.out.kept HK.out) ha rfl
      obtain ⟨x, y⟩ := a
      obtain ⟨S, hS⟩ : ∃ S : ByteArray, S = ⟨x.toArray⟩ := ⟨_, rfl⟩
      unfold strV at a0
      simp only at a0 a1
      rw [← hS] at a0
      have hsn := short_not hS
      have HA := Lib.hid ha
      have HS := Lib.hid hS
      clear ha hil hS
      cases hsh : shortB x with
      | false =>
        have hfin : M = false := by
          rw [← HM.out, all_not HA.out (show shortZ (x, y) = false from hsh)]
          rfl
        subst hfin
        have hsz : ¬ (S.size ≤ 65536) := fun h => by rw [hsn.2 h] at hsh; cases hsh
        have hd : decide ((65536 : Int) < (S.size : Int)) = true := decide_eq_true (by omega)
        clear hsh hsn
        go_wp2_with fail
        refine wp_plan 0 [1, 2, 3, 4, 5, 6, 7, 8, 9, 10, 11, 12, 13, 14, 15, 16, 17, 18, 19] 20 [] [21, 22, 23] (by kernel_rfl) (by kernel_rfl) ?_
        simp only [wpPlan]
        repeat (refine quiet_pick rfl ?_; go_big_quiet_step (fail))
        refine wpQuiet_nil ?_
        rintro _ ⟨q1, rfl⟩
        refine list_pick rfl ?_
        refine wpList_no (by rfl) ?_
        go_wp2_with fail
        refine Halt.mk ?_
        simp only [Act.put, List.setIfInBounds_toArray, List.set_cons_succ, List.set_cons_zero]
        repeat (refine quiet_pick rfl ?_; go_big_quiet_step (fail))
        refine wpQuiet_nil ?_
        rintro _ ⟨q2, rfl⟩
        go_wp2_with fail
        go_ret
        exact ⟨rfl, (HK.out.drewN q1).drewN q2⟩
      | true =>
        have hsz : S.size ≤ 65536 := hsn.1 hsh
        have hd : decide ((65536 : Int) < (S.size : Int)) = false := decide_eq_false (by omega)
        have HR3 := Lib.hid (all_next HR.out HA.out (show shortZ (x, y) = true from hsh))
        clear hsh hsn
        by_cases hi0 : i = 0
        · subst hi0
          have z0 := a0
          have z1 := a1
          rw [Nat.zero_mul, addr0] at z0 z1
          go_wp2_with fail
          refine wp_plan 0 [1, 2, 3, 4, 5, 6, 7, 8, 9, 10, 11, 12, 13, 14, 15, 16, 17, 18, 19] 20 [] [21, 22, 23] (by kernel_rfl) (by kernel_rfl) ?_
          simp only [wpPlan]
          repeat (refine quiet_pick rfl ?_; go_big_quiet_step (fail))
          refine wpQuiet_nil ?_
          rintro _ ⟨q1, rfl⟩
          clear a0 a1 z0 z1
          refine list_pick rfl ?_
          refine wpList_no (by rfl) ?_
          go_wp2_with fail
          refine Halt.mk ?_
          simp only [Act.put, List.setIfInBounds_toArray, List.set_cons_succ, List.set_cons_zero]
          repeat (refine quiet_pick rfl ?_; go_big_quiet_step (fail))
          refine wpQuiet_nil ?_
          rintro _ ⟨q2, rfl⟩
          go_wp2_with fail
          go_roundw
          case rel => exact ⟨0 + 1, by go_num, by omega, HR3.out, RisesTo.one _ _, HK.out.drewN _⟩
          case measure => simp [intOf]; omega
        · obtain ⟨j, hj⟩ : ∃ j, i = j + 1 := ⟨i - 1, by omega⟩
          have hjl : j < L.length := by have := HN.out; omega
          obtain ⟨b, hb⟩ : ∃ a, L[j]? = some a := ⟨L[j], List.getElem?_eq_getElem hjl⟩
          obtain ⟨bd, he, b0, b1⟩ := agg_two (fun _ => rfl) (HROW.out.kept HK.out) hb rfl
          obtain rfl := Option.some.inj he
          obtain ⟨x2, y2⟩ := b
          obtain ⟨T, hT⟩ : ∃ S : ByteArray, S = ⟨x2.toArray⟩ := ⟨_, rfl⟩
          unfold strV at b0
          simp only at b0 b1
          rw [← hT] at b0
          have hah : ∀ W, Calls Tryd.prog 83 #[.agg #[.string T, .int .i64 y2], .agg #[.string S, .int .i64 y]] W fun e w' => e = .returned (.bool (ltZ (x2, y2) (x, y))) ∧ Kept NoBlock W w' := fun W => by
            have := rahead (x2, y2) (x, y) W
            unfold zA strV at this
            simp only at this
            rw [hT, HS.out]
            exact this
          have HAH := Lib.hid hah
          have hwr : IntKind.i64.wrap ((i : Int) - 1) = (j : Int) := by rw [IntWalk.i64_in _ (by omega)]; omega
          have hjn : j < n := by omega
          have hi1 : 0 < i := by omega
          have hd0 : decide ((0 : Int) < (i : Int)) = true := decide_eq_true (by omega)
          have HJ := Lib.hid hj
          have HB := Lib.hid hb
          clear hj hjl hb hT hi0 hah
          go_wp2_with fail
          refine wp_plan 0 [1, 2, 3, 4, 5, 6, 7, 8, 9, 10, 11, 12, 13, 14, 15, 16, 17, 18, 19] 20 [] [21, 22, 23] (by kernel_rfl) (by kernel_rfl) ?_
          simp only [wpPlan]
          repeat (refine quiet_pick rfl ?_; go_big_quiet_step (fail))
          refine wpQuiet_nil ?_
          rintro _ ⟨q1, rfl⟩
          clear a0 a1 b0 b1 hwr hd0
          refine list_pick rfl ?_
          refine wpList_yes (by rfl) ?_
          go_wp2_with fail
          (with_reducible refine (HAH.out _).mono ?_)
          rintro e w2 ⟨rfl, hk2⟩
          have HK2 := Lib.hid ((HK.out.drewN q1).trans hk2)
          clear hk2
          cases hl : ltZ (x2, y2) (x, y) with
          | false =>
            have hfin : M = false := by
              rw [← HM.out, not_rises HB.out (by have := HA.out; rw [HJ.out] at this; exact this) hl, Bool.false_and, Bool.and_false]
            subst hfin
            clear hl
            go_wp2_with fail
            refine Halt.mk ?_
            repeat (refine quiet_pick rfl ?_; go_big_quiet_step (fail))
            refine wpQuiet_nil ?_
            rintro _ ⟨q2, rfl⟩
            go_wp2_with fail
            go_ret
            exact ⟨rfl, HK2.out.drewN _⟩
          | true =>
            have HRN := Lib.hid (HRR.out.next HJ.out HB.out HA.out hl)
            clear hl
            go_wp2_with fail
            refine Halt.mk ?_
            repeat (refine quiet_pick rfl ?_; go_big_quiet_step (fail))
            refine wpQuiet_nil ?_
            rintro _ ⟨q2, rfl⟩
            go_wp2_with fail
            go_roundw
            case rel => exact ⟨i + 1, by go_num, by omega, HR3.out, HRN.out, HK2.out.drewN _⟩
            case measure => simp [intOf]; omega
    · have hfin : M = D := by
        rw [← HM.out]
        have := HR.out
        rw [List.take_of_length_le (by have := HN.out; omega)] at this
        rw [this, HRR.out.all (by have := HN.out; omega)]
        simp
      subst hfin
      go_wp2_with fail
      (with_reducible refine (HTW.out _ HK.out).mono ?_)
      rintro e w2 ⟨rfl, hk2⟩
      have HK2 := Lib.hid (HK.out.trans hk2)
      clear hk2
      go_wp2_with fail
      go_ret
      exact ⟨by simp, HK2.out⟩
end Go.Proofs.YtfhlhpknobkplaaDoor
namespace Go.Proofs.YtfhlhpknobkplaaDoor
open Go.RowKit
attribute [local go_sem] fold_part fold_some fold_some' partAt_zero

/-- A value's test, as the document has it. -/
def isB (kk : Int) (s : Bs) (L : List Bs) (Z : List (Bs × Int)) (H : List (Bs × Bs)) : Bool :=
  if kk = 1 then shortB s && decide (L.length = 0) && decide (Z.length = 0) && decide (H.length = 0)
  else if kk = 2 then s.isEmpty && decide (Z.length = 0) && decide (H.length = 0) && sizedN L.length && L.all shortB
  else if kk = 3 then s.isEmpty && decide (Z.length = 0) && decide (H.length = 0) && sizedN L.length && (L.all shortB && risesBy ltB L)
  else if kk = 4 then s.isEmpty && decide (L.length = 0) && decide (H.length = 0) && sizedN Z.length && (Z.all shortZ && (risesBy ltZ Z && distinctB (Z.map (·.1))))
  else if kk = 5 then s.isEmpty && decide (L.length = 0) && decide (Z.length = 0) && sizedN H.length && (H.all okF && risesBy ltF H)
  else false
theorem valOk_is (kk : Int) (s : Bs) (L : List Bs) (Z : List (Bs × Int)) (H : List (Bs × Bs)) : valOk ⟨kk, s, L, Z, H⟩ = isB kk s L Z H := by
  unfold valOk isB
  simp only [empty_len]
  have e1 : risesBy ltF H = risesBy ltB (H.map (·.1)) := rises_map ltB (fun f : Bs × Bs => f.1) H
  have e2 : (H.all fun f => shortB f.1 && shortB f.2) = H.all okF := rfl
  have e3 : (Z.all fun z => shortB z.1) = Z.all shortZ := rfl
  rw [e1, e2, e3]
  generalize decide (s.length = 0) = a
  generalize decide (L.length = 0) = b
  generalize decide (Z.length = 0) = c
  generalize decide (H.length = 0) = d
  generalize risesBy ltB L = e
  generalize sizedN L.length = f
  generalize L.all shortB = g
  generalize sizedN Z.length = h
  generalize sizedN H.length = i
  generalize Z.all shortZ = j
  generalize distinctB (Z.map (·.1)) = k
  generalize risesBy ltZ Z = l
  generalize risesBy ltB (H.map (·.1)) = m
  generalize H.all okF = n
  generalize shortB s = o
  by_cases h1 : kk = 1
  · rw [if_pos h1, if_pos h1]; clear a e f g h i j k l m n; revert b c d o; decide
  · rw [if_neg h1, if_neg h1]
    by_cases h2 : kk = 2
    · rw [if_pos h2, if_pos h2]
    · rw [if_neg h2, if_neg h2]
      by_cases h3 : kk = 3
      · rw [if_pos h3, if_pos h3]; clear b h j k l m n o i; revert a c d e f g; decide
      · rw [if_neg h3, if_neg h3]
        by_cases h4 : kk = 4
        · rw [if_pos h4, if_pos h4]; clear c e f g i m n o; revert a b d h j k l; decide
        · rw [if_neg h4, if_neg h4]
          by_cases h5 : kk = 5
          · rw [if_pos h5, if_pos h5]; clear d e f g h j k l o; revert a b c i m n; decide
          · rw [if_neg h5, if_neg h5]

set_option maxRecDepth 100000 in
set_option maxHeartbeats 1600000 in
theorem ris (kk : Int) (s : Bs) (L : List Bs) (Z : List (Bs × Int)) (H : List (Bs × Bs)) (vL vZ vH : Value) (w : World) (hL : RowV w vL (L.map strV)) (hZ : RowK 2 zCells w vZ Z) (hH : RowK 2 hCells w vH H)
    (nL : L.length ≤ 70000000) (nZ : Z.length ≤ 70000000) (nH : H.length ≤ 70000000) :
    Calls Tryd.prog 61 #[.agg #[.int .i64 kk, strV s, vL, vZ, vH]] w fun e w' => e = .returned (.bool (valOk ⟨kk, s, L, Z, H⟩)) ∧ Kept NoBlock w w' := by
  obtain ⟨apL, capL, rfl, _⟩ := hL.parts
  obtain ⟨apZ, capZ, rfl, _⟩ := hZ.parts
  obtain ⟨apH, capH, rfl, _⟩ := hH.parts
  rw [List.length_map] at hL ⊢
  rw [valOk_is]
  generalize hM : isB kk s L Z H = M
  unfold isB at hM
  obtain ⟨S, hS⟩ : ∃ S : ByteArray, S = ⟨s.toArray⟩ := ⟨_, rfl⟩
  have hse := str_empty hS
  have hsn := short_not hS
  unfold strV
  rw [← hS]
  have hpz1 := fun W => rsized L.length W nL
  have hpz2 := fun W => rsized Z.length W nZ
  have hpz3 := fun W => rsized H.length W nH
  have hc2 := fun w' (hk : Kept NoBlock w w') => rtextsF _ L w' (hL.keptNo hk) nL
  have hc3 := fun w' (hk : Kept NoBlock w w') => rtextsT _ L w' (hL.keptNo hk) nL
  have hc4 := fun w' (hk : Kept NoBlock w w') => rmembers _ Z w' (hZ.kept hk) nZ
  have hc5 := fun w' (hk : Kept NoBlock w w') => rfields _ H w' (hH.kept hk) nH
  generalize L.all shortB = B2 at *
  generalize (B2 && risesBy ltB L) = B3 at *
  generalize (Z.all shortZ && (risesBy ltZ Z && distinctB (Z.map (·.1)))) = B4 at *
  generalize (H.all okF && risesBy ltF H) = B5 at *
  generalize sizedN L.length = A1 at *
  generalize sizedN Z.length = A2 at *
  generalize sizedN H.length = A3 at *
  generalize s.isEmpty = E at *
  have hx : ((L.length : Int) == 0) = decide (L.length = 0) := by rw [Bool.eq_iff_iff]; simp
  have hy : ((Z.length : Int) == 0) = decide (Z.length = 0) := by rw [Bool.eq_iff_iff]; simp
  have hu : ((H.length : Int) == 0) = decide (H.length = 0) := by rw [Bool.eq_iff_iff]; simp
  generalize decide (L.length = 0) = X at *
  generalize decide (Z.length = 0) = Y at *
  generalize decide (H.length = 0) = U at *
  have hq : decide ((S.size : Int) ≤ 65536) = shortB s := by
    rw [Bool.eq_iff_iff, hsn]
    simp
    omega
  generalize shortB s = Q at *
  generalize L.length = a at *
  generalize Z.length = b at *
  generalize H.length = c at *
  have HM := Lib.hid hM
  have HZ1 := Lib.hid hpz1
  have HZ2 := Lib.hid hpz2
  have HZ3 := Lib.hid hpz3
  have HC2 := Lib.hid hc2
  have HC3 := Lib.hid hc3
  have HC4 := Lib.hid hc4
  have HC5 := Lib.hid hc5
  clear hM hL hZ hH hS hsn hpz1 hpz2 hpz3 hc2 hc3 hc4 hc5
  have HK1 := Lib.hid (Kept.allocd w (.cells #[.int .i64 kk, .string S, .slice apL a capL, .slice apZ b capZ, .slice apH c capH] 54))
  have HG1 := Lib.hid (heap_alloc_new w (.cells #[.int .i64 kk, .string S, .slice apL a capL, .slice apZ b capZ, .slice apH c capH] 54))
  go_enter Tryd.func61, Tryd.ntmps61
  go_wp2_with fail
  generalize w.alloc (.cells #[.int .i64 kk, .string S, .slice apL a capL, .slice apZ b capZ, .slice apH c capH] 54) = W1 at *
  generalize w.heap.size = g at *
  obtain ⟨a0, a1, a2, a3, a4⟩ := blk5 HG1.out
  go_quiet (fail)
  by_cases h1 : kk = 1
  · subst h1
    have hm := HM.out
    simp only [if_false, if_true] at hm
    clear HM
    cases Q with
    | false =>
      simp at hm
      subst hm
      go_wp2_with fail
      go_ret
      exact ⟨rfl, HK1.out.drewN _⟩
    | true =>
      try simp only [Bool.true_and, Bool.and_true] at hm
      cases X with
      | false =>
        simp at hm
        subst hm
        go_wp2_with fail
        go_ret
        exact ⟨rfl, HK1.out.drewN _⟩
      | true =>
        try simp only [Bool.true_and, Bool.and_true] at hm
        cases Y with
        | false =>
          simp at hm
          subst hm
          go_wp2_with fail
          go_ret
          exact ⟨rfl, HK1.out.drewN _⟩
        | true =>
          try simp only [Bool.true_and, Bool.and_true] at hm
          cases U with
          | false =>
            simp at hm
            subst hm
            go_wp2_with fail
            go_ret
            exact ⟨rfl, HK1.out.drewN _⟩
          | true =>
            try simp only [Bool.true_and, Bool.and_true] at hm
            subst hm
            go_wp2_with fail
            go_ret
            exact ⟨rfl, HK1.out.drewN _⟩
  · by_cases h2 : kk = 2
    · subst h2
      have hm := HM.out
      simp only [show ¬ ((2 : Int) = 1) by decide, if_false, if_true] at hm
      clear HM
      cases E with
      | false =>
        simp at hm
        subst hm
        go_wp2_with fail
        go_ret
        exact ⟨rfl, HK1.out.drewN _⟩
      | true =>
        try simp only [Bool.true_and, Bool.and_true] at hm
        cases Y with
        | false =>
          simp at hm
          subst hm
          go_wp2_with fail
          go_ret
          exact ⟨rfl, HK1.out.drewN _⟩
        | true =>
          try simp only [Bool.true_and, Bool.and_true] at hm
          cases U with
          | false =>
            simp at hm
            subst hm
            go_wp2_with fail
            go_ret
            exact ⟨rfl, HK1.out.drewN _⟩
          | true =>
            try simp only [Bool.true_and, Bool.and_true] at hm
            cases A1 with
            | false =>
              simp at hm
              subst hm
              go_wp2_with fail
              (with_reducible refine (HZ1.out _).mono ?_)
              rintro e w2 ⟨rfl, rfl⟩
              go_wp2_with fail
              go_ret
              exact ⟨rfl, HK1.out.drewN _⟩
            | true =>
              try simp only [Bool.true_and, Bool.and_true] at hm
              subst hm
              go_wp2_with fail
              (with_reducible refine (HZ1.out _).mono ?_)
              rintro e w2 ⟨rfl, rfl⟩
              go_wp2_with fail
              (with_reducible refine (HC2.out _ (HK1.out.drewN _)).mono ?_)
              rintro e w3 ⟨rfl, hk⟩
              have HK3 := Lib.hid ((HK1.out.drewN nq).trans hk)
              clear hk
              go_wp2_with fail
              go_ret
              exact ⟨rfl, HK3.out⟩
    · by_cases h3 : kk = 3
      · subst h3
        have hm := HM.out
        simp only [show ¬ ((3 : Int) = 1) by decide, show ¬ ((3 : Int) = 2) by decide, if_false, if_true] at hm
        clear HM
        cases E with
        | false =>
          simp at hm
          subst hm
          go_wp2_with fail
          go_ret
          exact ⟨rfl, HK1.out.drewN _⟩
        | true =>
          try simp only [Bool.true_and, Bool.and_true] at hm
          cases Y with
          | false =>
            simp at hm
            subst hm
            go_wp2_with fail
            go_ret
            exact ⟨rfl, HK1.out.drewN _⟩
          | true =>
            try simp only [Bool.true_and, Bool.and_true] at hm
            cases U with
            | false =>
              simp at hm
              subst hm
              go_wp2_with fail
              go_ret
              exact ⟨rfl, HK1.out.drewN _⟩
            | true =>
              try simp only [Bool.true_and, Bool.and_true] at hm
              cases A1 with
              | false =>
                simp at hm
                subst hm
                go_wp2_with fail
                (with_reducible refine (HZ1.out _).mono ?_)
                rintro e w2 ⟨rfl, rfl⟩
                go_wp2_with fail
                go_ret
                exact ⟨rfl, HK1.out.drewN _⟩
              | true =>
                try simp only [Bool.true_and, Bool.and_true] at hm
                subst hm
                go_wp2_with fail
                (with_reducible refine (HZ1.out _).mono ?_)
                rintro e w2 ⟨rfl, rfl⟩
                go_wp2_with fail
                (with_reducible refine (HC3.out _ (HK1.out.drewN _)).mono ?_)
                rintro e w3 ⟨rfl, hk⟩
                have HK3 := Lib.hid ((HK1.out.drewN nq).trans hk)
                clear hk
                go_wp2_with fail
                go_ret
                exact ⟨rfl, HK3.out⟩
      · by_cases h4 : kk = 4
        · subst h4
          have hm := HM.out
          simp only [show ¬ ((4 : Int) = 1) by decide, show ¬ ((4 : Int) = 2) by decide, show ¬ ((4 : Int) = 3) by decide, if_false, if_true] at hm
          clear HM
          cases E with
          | false =>
            simp at hm
            subst hm
            go_wp2_with fail
            go_ret
            exact ⟨rfl, HK1.out.drewN _⟩
          | true =>
            try simp only [Bool.true_and, Bool.and_true] at hm
            cases X with
            | false =>
              simp at hm
              subst hm
              go_wp2_with fail
              go_ret
              exact ⟨rfl, HK1.out.drewN _⟩
            | true =>
              try simp only [Bool.true_and, Bool.and_true] at hm
              cases U with
              | false =>
                simp at hm
                subst hm
                go_wp2_with fail
                go_ret
                exact ⟨rfl, HK1.out.drewN _⟩
              | true =>
                try simp only [Bool.true_and, Bool.and_true] at hm
                cases A2 with
                | false =>
                  simp at hm
                  subst hm
                  go_wp2_with fail
                  (with_reducible refine (HZ2.out _).mono ?_)
                  rintro e w2 ⟨rfl, rfl⟩
                  go_wp2_with fail
                  go_ret
                  exact ⟨rfl, HK1.out.drewN _⟩
                | true =>
                  try simp only [Bool.true_and, Bool.and_true] at hm
                  subst hm
                  go_wp2_with fail
                  (with_reducible refine (HZ2.out _).mono ?_)
                  rintro e w2 ⟨rfl, rfl⟩
                  go_wp2_with fail
                  (with_reducible refine (HC4.out _ (HK1.out.drewN _)).mono ?_)
                  rintro e w3 ⟨rfl, hk⟩
                  have HK3 := Lib.hid ((HK1.out.drewN nq).trans hk)
                  clear hk
                  go_wp2_with fail
                  go_ret
                  exact ⟨rfl, HK3.out⟩
        · by_cases h5 : kk = 5
          · subst h5
            have hm := HM.out
            simp only [show ¬ ((5 : Int) = 1) by decide, show ¬ ((5 : Int) = 2) by decide, show ¬ ((5 : Int) = 3) by decide, show ¬ ((5 : Int) = 4) by decide, if_false, if_true] at hm
            clear HM
            cases E with
            | false =>
              simp at hm
              subst hm
              go_wp2_with fail
              go_ret
              exact ⟨rfl, HK1.out.drewN _⟩
            | true =>
              try simp only [Bool.true_and, Bool.and_true] at hm
              cases X with
              | false =>
                simp at hm
                subst hm
                go_wp2_with fail
                go_ret
                exact ⟨rfl, HK1.out.drewN _⟩
              | true =>
                try simp only [Bool.true_and, Bool.and_true] at hm
                cases Y with
                | false =>
                  simp at hm
                  subst hm
                  go_wp2_with fail
                  go_ret
                  exact ⟨rfl, HK1.out.drewN _⟩
                | true =>
                  try simp only [Bool.true_and, Bool.and_true] at hm
                  cases A3 with
                  | false =>
                    simp at hm
                    subst hm
                    go_wp2_with fail
                    (with_reducible refine (HZ3.out _).mono ?_)
                    rintro e w2 ⟨rfl, rfl⟩
                    go_wp2_with fail
                    go_ret
                    exact ⟨rfl, HK1.out.drewN _⟩
                  | true =>
                    try simp only [Bool.true_and, Bool.and_true] at hm
                    subst hm
                    go_wp2_with fail
                    (with_reducible refine (HZ3.out _).mono ?_)
                    rintro e w2 ⟨rfl, rfl⟩
                    go_wp2_with fail
                    (with_reducible refine (HC5.out _ (HK1.out.drewN _)).mono ?_)
                    rintro e w3 ⟨rfl, hk⟩
                    have HK3 := Lib.hid ((HK1.out.drewN nq).trans hk)
                    clear hk
                    go_wp2_with fail
                    go_ret
                    exact ⟨rfl, HK3.out⟩
          · have hm := HM.out
            rw [if_neg h1, if_neg h2, if_neg h3, if_neg h4, if_neg h5] at hm
            subst hm
            clear HM
            go_wp2_with fail
            go_ret
            exact ⟨rfl, HK1.out.drewN _⟩
end Go.Proofs.YtfhlhpknobkplaaDoor
namespace Go.Proofs.YtfhlhpknobkplaaDoor
open Go.RowKit
attribute [local go_sem] fold_part fold_some fold_some' partAt_zero
attribute [local irreducible] wpQuiet

set_option maxRecDepth 100000 in
theorem rentry (m : EntM) (w : World) (hs : SubsV w m) (hz : SizedM m.e) : Calls Tryd.prog 54 #[entA m] w fun e w' => e = .returned (.bool (entOk m.e)) ∧ Kept NoBlock w w' := by
  obtain ⟨⟨key, ⟨kk, s, L, Z, H⟩, till⟩, vL, vZ, vH⟩ := m
  obtain ⟨hL, hZ, hH⟩ := hs
  obtain ⟨nL, nZ, nH, sZ⟩ := hz
  simp only at hL hZ hH nL nZ nH sZ
  unfold entA
  simp only
  have hpr := fun w' (hk : Kept NoBlock w w') => ris kk s L Z H vL vZ vH w' (hL.keptNo hk) (hZ.kept hk) (hH.kept hk) nL nZ nH
  obtain ⟨apL, capL, rfl, _⟩ := hL.parts
  obtain ⟨apZ, capZ, rfl, _⟩ := hZ.parts
  obtain ⟨apH, capH, rfl, _⟩ := hH.parts
  rw [List.length_map] at hpr ⊢
  generalize hM : entOk ⟨key, ⟨kk, s, L, Z, H⟩, till⟩ = M
  unfold entOk at hM
  simp only at hM
  generalize valOk ⟨kk, s, L, Z, H⟩ = V at *
  obtain ⟨S, hS⟩ : ∃ S : ByteArray, S = ⟨key.toArray⟩ := ⟨_, rfl⟩
  have hsn := short_not hS
  have HPR := Lib.hid hpr
  unfold strV at HPR ⊢
  rw [← hS]
  generalize L.length = a at *
  generalize Z.length = b at *
  generalize H.length = c at *
  have HK1 := Lib.hid (Kept.allocd w (.cells #[.string S, .int .i64 kk, .string ⟨s.toArray⟩, .slice apL a capL, .slice apZ b capZ, .slice apH c capH, .int .i64 till] 56))
  have HG1 := Lib.hid (heap_alloc_new w (.cells #[.string S, .int .i64 kk, .string ⟨s.toArray⟩, .slice apL a capL, .slice apZ b capZ, .slice apH c capH, .int .i64 till] 56))
  clear hpr hL hZ hH nL nZ nH sZ
  cases hsh : shortB key with
  | false =>
    rw [hsh] at hM
    rw [Bool.false_and, Bool.false_and] at hM
    subst hM
    have hsz : ¬ ((S.size : Int) ≤ 65536) := fun h => by rw [hsn.2 (by omega)] at hsh; cases hsh
    clear hsh hsn hS
    go_enter Tryd.func54, Tryd.ntmps54
    go_wp2_with fail
    go_ret
    exact ⟨rfl, HK1.out⟩
  | true =>
    rw [hsh] at hM
    rw [Bool.true_and] at hM
    have hsz : (S.size : Int) ≤ 65536 := by have := hsn.1 hsh; omega
    clear hsh hsn hS
    by_cases h0 : till = -1
    · subst h0
      have hM2 : V = M := by rw [← hM]; simp
      subst hM2
      clear hM
      go_enter Tryd.func54, Tryd.ntmps54
      go_wp2_with fail
      (with_reducible refine (HPR.out _ HK1.out).mono ?_)
      rintro e w2 ⟨rfl, hk⟩
      have HK2 := Lib.hid (HK1.out.trans hk)
      clear hk
      go_wp2_with fail
      go_ret
      exact ⟨rfl, HK2.out⟩
    · by_cases h1 : 0 ≤ till
      · by_cases h2 : till ≤ 1099511627776
        · have hM2 : V = M := by rw [← hM]; simp [h2]; omega
          subst hM2
          clear hM
          go_enter Tryd.func54, Tryd.ntmps54
          go_wp2_with fail
          (with_reducible refine (HPR.out _ HK1.out).mono ?_)
          rintro e w2 ⟨rfl, hk⟩
          have HK2 := Lib.hid (HK1.out.trans hk)
          clear hk
          go_wp2_with fail
          go_ret
          exact ⟨rfl, HK2.out⟩
        · have hM2 : M = false := by rw [← hM]; simp [h2]
          subst hM2
          clear hM
          go_enter Tryd.func54, Tryd.ntmps54
          go_wp2_with fail
          go_ret
          exact ⟨rfl, HK1.out⟩
      · have hM2 : M = false := by rw [← hM]; simp; omega
        subst hM2
        clear hM
        go_enter Tryd.func54, Tryd.ntmps54
        go_wp2_with fail
        go_ret
        exact ⟨rfl, HK1.out⟩

set_option maxRecDepth 100000 in
set_option maxHeartbeats 1600000 in
theorem rcheck (v : Value) (ms : List EntM) (w : World) (h : EntsV w v ms) (hn : ms.length ≤ 70000000) (hz : ∀ m ∈ ms, SizedM m.e) :
    Calls Tryd.prog 36 #[v] w fun e w' => e = .returned (.int .i64 (checkE (ms.map (·.e)))) ∧ Kept NoBlock w w' := by
  obtain ⟨ap, cap, rfl, _⟩ := h.1.parts
  have hr : risesBy ltE ms = risesBy ltB ((ms.map (·.e)).map (·.key)) := by
    have := rises_map ltB (fun m : EntM => m.e.key) ms
    rw [List.map_map]
    exact this
  have ha : ms.all okE = (ms.map (·.e)).all entOk := by rw [List.all_map]; rfl
  generalize hM : checkE (ms.map (·.e)) = M
  unfold checkE at hM
  rw [List.length_map, ← hr, ← ha] at hM
  have HE := Lib.hid (fun (i : Nat) (m : EntM) (hi : ms[i]? = some m) w' (hk : Kept NoBlock w w') => rentry m w' ((h.2 m (List.mem_of_getElem? hi)).kept hk) (hz m (List.mem_of_getElem? hi)))
  have HROW := Lib.hid h.1
  have HM := Lib.hid hM
  obtain ⟨n, hnn⟩ : ∃ n, n = ms.length := ⟨_, rfl⟩
  rw [← hnn] at hn HROW HM ⊢
  have HN := Lib.hid hnn
  clear h hM hr ha hnn hz
  by_cases hn2 : 65536 < n
  · obtain rfl : 3 = M := by have := HM.out; rw [if_pos hn2] at this; exact this
    go_enter Tryd.func36, Tryd.ntmps36
    go_wp2_with fail
    go_ret
    exact ⟨rfl, Kept.refl _ _⟩
  have hm := HM.out
  rw [if_neg hn2] at hm
  have HM := Lib.hid hm
  clear hm
  go_enter Tryd.func36, Tryd.ntmps36
  go_wp2_with fail
  go_loopw [3] (fun v3 wr => ∃ i : Nat, v3 = .int .i64 i ∧ i ≤ n ∧ (ms.take i).all okE = true ∧ RisesTo ltE ms i ∧ Kept NoBlock w wr) (fun v3 _ => n - (intOf v3).toNat)
  case atStart => exact ⟨0, rfl, Nat.zero_le _, rfl, RisesTo.zero _ _, Kept.refl _ _⟩
  case round =>
    obtain ⟨i, rfl, hi, hr, hrr, hk⟩ := hrel
    have HR := Lib.hid hr
    have HRR := Lib.hid hrr
    have HK := Lib.hid hk
    clear hr hrr hk
    by_cases hlt : i < n
    · have hil : i < ms.length := by have := HN.out; omega
      obtain ⟨m, hm⟩ : ∃ a, ms[i]? = some a := ⟨ms[i], List.getElem?_eq_getElem hil⟩
      have HA := Lib.hid hm
      have he := HE.out i m hm
      obtain ⟨ad, rfl, a0, a1, a2, a3, a4, a5, a6⟩ := RowK.at7 (HROW.out.kept HK.out) hm
      obtain ⟨S, hS⟩ : ∃ S : ByteArray, S = ⟨m.e.key.toArray⟩ := ⟨_, rfl⟩
      obtain ⟨S2, hS2⟩ : ∃ S : ByteArray, S = ⟨m.e.v.s.toArray⟩ := ⟨_, rfl⟩
      unfold entA at he
      unfold strV at a0 a2 he
      rw [← hS] at a0 he
      rw [← hS2] at a2 he
      have HS := Lib.hid hS
      have hent : entOk m.e = okE m := rfl
      rw [hent] at he
      generalize m.e.v.kind = kk at *
      generalize m.vL = vL at *
      generalize m.vZ = vZ at *
      generalize m.vH = vH at *
      generalize m.e.till = till at *
      generalize hO : okE m = O at *
      have HE := Lib.hid he
      have HOK := Lib.hid hO
      clear hm hil he hS hS2 hent hO
      cases O with
      | false =>
        have hfin : M = 90 := by
          rw [← HM.out, all_not HA.out HOK.out]
          simp
        subst hfin
        go_wp2_with fail
        refine wp_plan 0 [1, 2, 3] 4 [] [5, 6, 7, 8, 9, 10, 11, 12, 13, 14, 15, 16, 17, 18, 19, 20, 21, 22, 23] (by kernel_rfl) (by kernel_rfl) ?_
        simp only [wpPlan]
        repeat (refine quiet_pick rfl ?_; go_big_quiet_step (fail))
        refine wpQuiet_nil ?_
        rintro _ ⟨q1, rfl⟩
        refine list_pick rfl ?_
        go_wp2_with fail
        (with_reducible refine (HE.out _ (HK.out.drewN q1)).mono ?_)
        rintro e w2 ⟨rfl, hk2⟩
        have HK2 := Lib.hid ((HK.out.drewN q1).trans hk2)
        clear hk2
        clear a0 a1 a2 a3 a4 a5 a6
        go_wp2_with fail
        refine Halt.mk ?_
        repeat (refine quiet_pick rfl ?_; go_big_quiet_step (fail))
        refine wpQuiet_nil ?_
        rintro _ ⟨q2, rfl⟩
        go_wp2_with fail
        go_ret
        exact ⟨rfl, HK2.out.drewN _⟩
      | true =>
        have HR3 := Lib.hid (all_next HR.out HA.out HOK.out)
        by_cases hi0 : i = 0
        · subst hi0
          rw [Nat.zero_mul, addr0] at a0 a1 a2 a3 a4 a5 a6
          go_wp2_with fail
          refine wp_plan 0 [1, 2, 3] 4 [] [5, 6, 7, 8, 9, 10, 11, 12, 13, 14, 15, 16, 17, 18, 19, 20, 21, 22, 23] (by kernel_rfl) (by kernel_rfl) ?_
          simp only [wpPlan]
          repeat (refine quiet_pick rfl ?_; go_big_quiet_step (fail))
          refine wpQuiet_nil ?_
          rintro _ ⟨q1, rfl⟩
          refine list_pick rfl ?_
          go_wp2_with fail
          (with_reducible refine (HE.out _ (HK.out.drewN q1)).mono ?_)
          rintro e w2 ⟨rfl, hk2⟩
          have HK2 := Lib.hid ((HK.out.drewN q1).trans hk2)
          clear hk2
          clear a0 a1 a2 a3 a4 a5 a6
          go_wp2_with fail
          refine Halt.mk ?_
          repeat (refine quiet_pick rfl ?_; go_big_quiet_step (fail))
          refine wpQuiet_nil ?_
          rintro _ ⟨q2, rfl⟩
          go_wp2_with fail
          go_roundw
          case rel => exact ⟨0 + 1, by go_num, by omega, HR3.out, RisesTo.one _ _, HK2.out.drewN _⟩
          case measure => simp [intOf]; omega
        · obtain ⟨j, hj⟩ : ∃ j, i = j + 1 := ⟨i - 1, by omega⟩
          have hjl : j < ms.length := by have := HN.out; omega
          obtain ⟨m2, hm2⟩ : ∃ a, ms[j]? = some a := ⟨ms[j], List.getElem?_eq_getElem hjl⟩
          have HB := Lib.hid hm2
          have HROW2 := Lib.hid (fun w' (hk : Kept NoBlock w w') => RowK.at7 (HROW.out.kept hk) HA.out)
          have HROW3 := Lib.hid (fun w' (hk : Kept NoBlock w w') => RowK.at7 (HROW.out.kept hk) hm2)
          have hwr : IntKind.i64.wrap ((i : Int) - 1) = (j : Int) := by rw [IntWalk.i64_in _ (by omega)]; omega
          have hjn : j < n := by omega
          have hi1 : 0 < i := by omega
          have hd0 : decide ((0 : Int) < (i : Int)) = true := decide_eq_true (by omega)
          have HJ := Lib.hid hj
          clear hm2 hjl hj hi0
          go_wp2_with fail
          refine wp_plan 0 [1, 2, 3] 4 [] [5, 6, 7, 8, 9, 10, 11, 12, 13, 14, 15, 16, 17, 18, 19, 20, 21, 22, 23] (by kernel_rfl) (by kernel_rfl) ?_
          simp only [wpPlan]
          repeat (refine quiet_pick rfl ?_; go_big_quiet_step (fail))
          refine wpQuiet_nil ?_
          rintro _ ⟨q1, rfl⟩
          refine list_pick rfl ?_
          go_wp2_with fail
          (with_reducible refine (HE.out _ (HK.out.drewN q1)).mono ?_)
          rintro e w2 ⟨rfl, hk2⟩
          have HK2 := Lib.hid ((HK.out.drewN q1).trans hk2)
          clear hk2
          clear a0 a1 a2 a3 a4 a5 a6
          obtain ⟨ad2, he2, c0, _⟩ := HROW2.out _ HK2.out
          obtain rfl := Option.some.inj he2
          obtain ⟨ad3, he3, b0, _⟩ := HROW3.out _ HK2.out
          obtain rfl := Option.some.inj he3
          obtain ⟨T, hT⟩ : ∃ S : ByteArray, S = ⟨m2.e.key.toArray⟩ := ⟨_, rfl⟩
          unfold strV at b0 c0
          rw [← hT] at b0
          rw [← HS.out] at c0
          have hless := str_less hT HS.out
          have hltE : ltE m2 m = ltB m2.e.key m.e.key := rfl
          rw [← hltE] at hless
          clear hT hltE
          cases hl : ltE m2 m with
          | false =>
            have hfin : M = 90 := by
              rw [← HM.out, not_rises HB.out (by have := HA.out; rw [HJ.out] at this; exact this) hl]
              simp
            subst hfin
            rw [hl] at hless
            clear hl
            go_wp2_with fail
            refine Halt.mk ?_
            repeat (refine quiet_pick rfl ?_; go_big_quiet_step (fail))
            refine wpQuiet_nil ?_
            rintro _ ⟨q2, rfl⟩
            go_wp2_with fail
            go_ret
            exact ⟨rfl, HK2.out.drewN _⟩
          | true =>
            have HRN := Lib.hid (HRR.out.next HJ.out HB.out HA.out hl)
            rw [hl] at hless
            clear hl
            go_wp2_with fail
            refine Halt.mk ?_
            repeat (refine quiet_pick rfl ?_; go_big_quiet_step (fail))
            refine wpQuiet_nil ?_
            rintro _ ⟨q2, rfl⟩
            clear b0 c0 hless hwr
            go_wp2_with fail
            go_roundw
            case rel => exact ⟨i + 1, by go_num, by omega, HR3.out, HRN.out, HK2.out.drewN _⟩
            case measure => simp [intOf]; omega
    · have hfin : M = 0 := by
        rw [← HM.out]
        have := HR.out
        rw [List.take_of_length_le (by have := HN.out; omega)] at this
        rw [this, HRR.out.all (by have := HN.out; omega)]
        rfl
      subst hfin
      go_wp2_with fail
      go_ret
      exact ⟨rfl, HK.out⟩
end Go.Proofs.YtfhlhpknobkplaaDoor
