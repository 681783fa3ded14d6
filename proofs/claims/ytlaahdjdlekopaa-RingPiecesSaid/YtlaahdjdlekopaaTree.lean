/- Regions that draw their order, by a plan that may part: two barriers in either order; what floats ahead of an operation that waits for it over others. For any program. -/
import Derived.Test.YtlaahdjdlekopaaFloat
namespace Go.Proofs.Ytlaahdjdlekopaa
section
variable {P : Program} {ops : Array Oper} {md : Region.Mode} {Q : Exit → Act → World → Prop} {Cl : World → Prop} {z : Nat}

/-- z waits for i, over others. -/
inductive Reach (md : Region.Mode) (ops : Array Oper) : Nat → Nat → Prop
  | one {z i : Nat} : Region.waitsFor md ops z i = true → Reach md ops z i
  | more {z k i : Nat} : Region.waitsFor md ops z k = true → Reach md ops k i → Reach md ops z i

theorem Reach.unlisted {z i : Nat} {listed : Array Bool} (h : Reach md ops z i) (hcl : Closed md ops listed) (hi : listed.getD i false = false) : listed.getD z false = false := by
  induction h with
  | one h =>
    obtain ⟨oz, hoz, e, he, hb, hon⟩ := Region.waitsFor_spec h
    cases hl : listed.getD _ false with
    | false => rfl
    | true =>
      have h4 := hcl _ oz hoz hl e he hb
      rw [hon, hi] at h4
      cases h4
  | more h _ ih =>
    obtain ⟨oz, hoz, e, he, hb, hon⟩ := Region.waitsFor_spec h
    have hk := ih hi
    cases hl : listed.getD _ false with
    | false => rfl
    | true =>
      have h4 := hcl _ oz hoz hl e he hb
      rw [hon, hk] at h4
      cases h4

theorem Reach.not_ready {z i : Nat} {listed : Array Bool} (h : Reach md ops z i) (hcl : Closed md ops listed) (hi : listed.getD i false = false) : z ∉ Region.ready md ops listed := by
  intro hr
  obtain ⟨_, o, ho, hall⟩ := mem_ready.1 hr
  cases h with
  | one h =>
    obtain ⟨oz, hoz, e, he, hb, hon⟩ := Region.waitsFor_spec h
    have : oz = o := Option.some.inj (hoz.symm.trans ho)
    subst this
    have h4 := hall e he hb
    rw [hon, hi] at h4
    cases h4
  | more h k =>
    obtain ⟨oz, hoz, e, he, hb, hon⟩ := Region.waitsFor_spec h
    have : oz = o := Option.some.inj (hoz.symm.trans ho)
    subst this
    have h4 := hall e he hb
    rw [hon, k.unlisted hcl hi] at h4
    cases h4

def reachB (md : Region.Mode) (ops : Array Oper) (z i : Nat) : Nat → Bool
  | 0 => false
  | f + 1 => Region.waitsFor md ops z i || (List.range ops.size).any fun k => Region.waitsFor md ops z k && reachB md ops k i f
theorem reach_of : ∀ (f z i : Nat), reachB md ops z i f = true → Reach md ops z i
  | 0, _, _, h => by cases h
  | f + 1, z, i, h => by
    simp only [reachB, Bool.or_eq_true] at h
    rcases h with h | h
    · exact .one h
    · obtain ⟨k, _, hk⟩ := List.any_eq_true.1 h
      simp only [Bool.and_eq_true] at hk
      exact .more hk.1 (reach_of f k i hk.2)

/-- A floating operation may be taken first (behind operation z the class is asked no more: z waits for whoever floats). -/
theorem wpAnyC_firstR {i : Nat} {oi : Oper} {v : Value} (hi : ops[i]? = some oi) (hsel : ∀ (j : Nat) (o : Oper) cs b, ops[j]? = some o → o.op ≠ .select cs b)
    (hQ : ∀ c a w, Q (.panic c) (a.put oi.dst v) w → Q (.panic c) a w) (hz : Reach md ops z i) :
    ∀ (fuel : Nat) (listed : Array Bool) (a : Act) (w : World), Closed md ops listed → listed.size = ops.size → Cl w →
      (∀ j oj, ops[j]? = some oj → j ≠ i → listed.getD j true = false → (∀ e ∈ oj.after, Region.binds md e = true → e.on ≠ i) → oi.apart ops oj = true) →
      i ∈ Region.ready md ops listed → FloatsIn P ops Cl oi v a →
      wpAnyC P md ops Q Cl z fuel (listed.setIfInBounds i true) (a.put oi.dst v) w → wpAnyC P md ops Q Cl z (fuel + 1) listed a w := by
  intro fuel
  induction fuel with
  | zero =>
    intro listed a w _ _ hcw _ hr hy H
    refine ⟨fun _ => hcw, fun h => (by rw [h] at hr; cases hr), fun j hj => ?_⟩
    by_cases hji : j = i
    · subst hji; exact hy.wpOp hi hcw H
    · have := ready_mono hj hji
      rw [H.2.1] at this
      cases this
  | succ fuel ih =>
    intro listed a w hcl hsz hcw hfree hr hy H
    refine ⟨fun _ => hcw, fun h => (by rw [h] at hr; cases hr), fun j hj => ?_⟩
    by_cases hji : j = i
    · subst hji; exact hy.wpOp hi hcw H
    · have h1 := H.2.2 j (ready_mono hj hji)
      obtain ⟨hjun, oj, hoj, hall⟩ := mem_ready.1 hj
      have h0 := (mem_ready.1 hr).1
      have hnot : ∀ e ∈ oj.after, Region.binds md e = true → e.on ≠ i := fun e he hb heq => by
        have h1 := hall e he hb
        rw [heq, getD_both h0] at h1
        cases h1
      have hzu : ((listed.setIfInBounds i true).setIfInBounds j true).getD z false = false := by
        have hun := getD_both h0
        have hzj : j ≠ z := fun e' => hz.not_ready hcl hun (e' ▸ hj)
        have hzi : i ≠ z := fun e' => hz.not_ready hcl hun (e' ▸ hr)
        rw [getD_set_ne false hzj, getD_set_ne false hzi]
        exact hz.unlisted hcl hun
      have h2 := wpOp_putC hoj (hfree j oj hoj hji hjun hnot) (fun cs b => hsel i oi cs b hi) (fun cs b => hsel j oj cs b hoj) hQ hy h1
      have hfree' : ∀ k ok, ops[k]? = some ok → k ≠ i → (listed.setIfInBounds j true).getD k true = false →
          (∀ e ∈ ok.after, Region.binds md e = true → e.on ≠ i) → oi.apart ops ok = true := fun k ok hk hki hun hno => by
        refine hfree k ok hk hki ?_ hno
        by_cases hjk : j = k
        · subst hjk; exact hjun
        · rw [getD_set_ne true hjk] at hun; exact hun
      refine wpOp_mono (fun a' w' h3 => ih (listed.setIfInBounds j true) a' w' (closed_set hcl hj) (by simpa using hsz) (wpAnyC.cl h3.2 hzu) hfree' (ready_mono hr (Ne.symm hji)) h3.1 ?_) h2
      rw [Array.setIfInBounds_comm _ _ hji]
      exact h3.2


/-- A plan that may part. -/
inductive Tree where
  | fin (Hf : List Nat)
  | flt (i : Nat) (t : Tree)
  | seg (b : Nat) (t : Tree)
  | two (b1 : Nat) (t1 : Tree) (b2 : Nat) (t2 : Tree)

def fuelT : Tree → Nat
  | .fin Hf => Hf.length
  | .flt _ t => fuelT t + 1
  | .seg _ t => fuelT t + 1
  | .two _ t1 _ _ => fuelT t1 + 1

def planBT (md : Region.Mode) (ops : Array Oper) (z : Nat) : Tree → Array Bool → Bool
  | .fin Hf, listed => headB md ops Hf listed && (Region.ready md ops (marks Hf listed)).isEmpty
  | .flt i t, listed => (Region.ready md ops listed).contains i && Region.free md ops listed i && reachB md ops z i ops.size && planBT md ops z t (listed.setIfInBounds i true)
  | .seg b t, listed => decide (Region.ready md ops listed = [b]) && planBT md ops z t (listed.setIfInBounds b true)
  | .two b1 t1 b2 t2, listed => decide (Region.ready md ops listed = [b1, b2]) && decide (fuelT t1 = fuelT t2) && planBT md ops z t1 (listed.setIfInBounds b1 true) && planBT md ops z t2 (listed.setIfInBounds b2 true)

def planOkT (ops : Array Oper) (z : Nat) (t : Tree) : Bool :=
  Region.noSelect ops && decide (fuelT t = ops.size) && planBT .any ops z t (Array.replicate ops.size false)
end

section
variable {P : Program} {l : List Oper} {md : Region.Mode} {Q : Exit → Act → World → Prop} {Cl : World → Prop} {z : Nat}

def wpTree (P : Program) (l : List Oper) (Q : Exit → Act → World → Prop) (Cl : World → Prop) (z : Nat) : Tree → Act → World → Prop
  | .fin [], a, w => Q .normal a w
  | .fin (i :: Hf), a, w => wpQuiet P l.toArray (fun w' => ∃ n, w' = w.drewN n) (fun a' => ∀ w', (∃ n, w' = w.drewN n) → Q .normal a' w') (pick l (i :: Hf)) a
  | .flt i t, a, w => wpFloat P l.toArray Cl (fun a' => wpTree P l Q Cl z t a' w) (pick l [i]) a
  | .seg b t, a, w => wpList P l.toArray (Exit.then (fun a w => Halt ((b = z ∨ Cl w) ∧ wpTree P l Q Cl z t a w) () () () () () ()) Q) (pick l [b]) a w
  | .two b1 t1 b2 t2, a, w => wpList P l.toArray (Exit.then (fun a w => Halt ((b1 = z ∨ Cl w) ∧ wpTree P l Q Cl z t1 a w) () () () () () ()) Q) (pick l [b1]) a w ∧
      wpList P l.toArray (Exit.then (fun a w => Halt ((b2 = z ∨ Cl w) ∧ wpTree P l Q Cl z t2 a w) () () () () () ()) Q) (pick l [b2]) a w

theorem tree_flt {i : Nat} {t : Tree} {a : Act} {w : World} {o : Oper} (ho : l[i]? = some o) (hg : o.guard = none)
    (h : ∃ v, (∀ w, Cl w → stillV w v ((execOp a.eval o).run P w)) ∧ wpTree P l Q Cl z t (a.put o.dst v) w) : wpTree P l Q Cl z (.flt i t) a w := by
  obtain ⟨v, h, hk⟩ := h
  rw [wpTree, pick_one ho]
  exact wpFloat_step v hg h hk

theorem tree_seg {b : Nat} {t : Tree} {a : Act} {w : World} {o : Oper} (ho : l[b]? = some o)
    (h : wpList P l.toArray (Exit.then (fun a w => Halt ((b = z ∨ Cl w) ∧ wpTree P l Q Cl z t a w) () () () () () ()) Q) [o] a w) : wpTree P l Q Cl z (.seg b t) a w := by
  rw [wpTree, pick_one ho]; exact h
theorem tree_two {b1 b2 : Nat} {t1 t2 : Tree} {a : Act} {w : World} {o1 o2 : Oper} (ho1 : l[b1]? = some o1) (ho2 : l[b2]? = some o2)
    (h1 : wpList P l.toArray (Exit.then (fun a w => Halt ((b1 = z ∨ Cl w) ∧ wpTree P l Q Cl z t1 a w) () () () () () ()) Q) [o1] a w)
    (h2 : wpList P l.toArray (Exit.then (fun a w => Halt ((b2 = z ∨ Cl w) ∧ wpTree P l Q Cl z t2 a w) () () () () () ()) Q) [o2] a w) : wpTree P l Q Cl z (.two b1 t1 b2 t2) a w := by
  rw [wpTree, pick_one ho1, pick_one ho2]; exact ⟨h1, h2⟩
theorem tree_fin {i : Nat} {Hf : List Nat} {a : Act} {w : World} (h : wpQuiet P l.toArray (fun w' => ∃ n, w' = w.drewN n) (fun a' => ∀ w', (∃ n, w' = w.drewN n) → Q .normal a' w') (pick l (i :: Hf)) a) : wpTree P l Q Cl z (.fin (i :: Hf)) a w := by
  rw [wpTree]; exact h

theorem wpAnyC_tree (hsel : Region.noSelect l.toArray = true) (hQ : ∀ c a w dst v, Q (.panic c) (a.put dst v) w → Q (.panic c) a w) (hdr : ∀ w n, Cl w → Cl (w.drewN n)) :
    ∀ (t : Tree) (listed : Array Bool) (a : Act) (w : World),
    Closed md l.toArray listed → listed.size = l.toArray.size → planBT md l.toArray z t listed = true → (listed.getD z false = false → Cl w) → wpTree P l Q Cl z t a w → wpAnyC P md l.toArray Q Cl z (fuelT t) listed a w
  | .fin [], listed, a, w, _, _, hB, hcw, h => by
    simp only [planBT, headB, marks, Bool.true_and, List.isEmpty_iff] at hB
    exact ⟨hcw, hB, h⟩
  | .fin (i :: Hf), listed, a, w, _, _, hB, hcw, h => by
    simp only [planBT, Bool.and_eq_true, List.isEmpty_iff] at hB
    exact wpAnyC_of_quiet (C := fun w' => ∃ n, w' = w.drewN n) (Q0 := fun a' => ∀ w', (∃ n, w' = w.drewN n) → Q .normal a' w') (listed.getD z false) (fun hz w' ⟨n, e⟩ => e ▸ hdr w n (hcw hz)) (fun _ w' hw' h => h w' hw') _ _ _ _ (fun h => h) ⟨0, rfl⟩
      (wpAnyQ_list (C := fun w' => ∃ n, w' = w.drewN n) hsel (i :: Hf) listed a hB.1 hB.2 h)
  | .flt i t, listed, a, w, hcl, hsz, hB, hcw, h => by
    simp only [planBT, Bool.and_eq_true] at hB
    obtain ⟨⟨⟨hr, hf⟩, hz⟩, hB2⟩ := hB
    have hz' := reach_of _ _ _ hz
    have hr' : i ∈ Region.ready md l.toArray listed := by simpa using hr
    obtain ⟨h0, oi, hoi, hall⟩ := mem_ready.1 hr'
    have hoi' : l[i]? = some oi := by simpa using hoi
    simp only [wpTree, pick_one hoi', wpFloat] at h
    obtain ⟨v, h1, h2, h3⟩ := h
    have hzl : listed.getD z false = false := hz'.unlisted hcl (getD_both h0)
    refine wpAnyC_firstR hoi (Region.noSelect_spec hsel) (fun c a w => hQ c a w _ _) hz' _ listed a w hcl hsz (hcw hzl) (Region.free_spec hoi hf) hr' ?_
      (wpAnyC_tree hsel hQ hdr t _ _ w (closed_set hcl hr') (by simpa using hsz) hB2 (fun _ => hcw hzl) h3)
    by_cases hwa : Region.wanted oi (yielded l.toArray a.tmps) = true
    · exact .inl ⟨hwa, h1 hwa⟩
    · have hwa' : Region.wanted oi (yielded l.toArray a.tmps) = false := by simpa using hwa
      exact .inr ⟨hwa', h2 hwa'⟩
  | .seg b t, listed, a, w, hcl, hsz, hB, hcw, h => by
    simp only [planBT, Bool.and_eq_true, decide_eq_true_eq] at hB
    obtain ⟨hr, hB2⟩ := hB
    have hbr : b ∈ Region.ready md l.toArray listed := by rw [hr]; simp
    obtain ⟨_, ob, hob, _⟩ := mem_ready.1 hbr
    have hob' : l[b]? = some ob := by simpa using hob
    have hblt : b < l.toArray.size := (Array.getElem?_eq_some_iff.1 hob).1
    rw [wpTree, pick_one hob'] at h
    refine ⟨hcw, fun h0 => (by rw [hr] at h0; cases h0), fun i hi => ?_⟩
    rw [hr] at hi
    have : i = b := by simpa using hi
    subst this
    refine wpOp_mono (fun a'' w'' h'' => wpAnyC_tree hsel hQ hdr t _ a'' w'' (closed_set hcl hbr) (by simpa using hsz) hB2 (fun hzf => ?_) h''.2) (wpList_pick hob h)
    rcases h''.1 with e | hc'
    · subst e
      simp [show i < listed.size by omega] at hzf
    · exact hc'
  | .two b1 t1 b2 t2, listed, a, w, hcl, hsz, hB, hcw, h => by
    simp only [planBT, Bool.and_eq_true, decide_eq_true_eq] at hB
    obtain ⟨⟨⟨hr, hfu⟩, hB1⟩, hB2⟩ := hB
    have hbr1 : b1 ∈ Region.ready md l.toArray listed := by rw [hr]; simp
    have hbr2 : b2 ∈ Region.ready md l.toArray listed := by rw [hr]; simp
    obtain ⟨_, ob1, hob1, _⟩ := mem_ready.1 hbr1
    obtain ⟨_, ob2, hob2, _⟩ := mem_ready.1 hbr2
    have hob1' : l[b1]? = some ob1 := by simpa using hob1
    have hob2' : l[b2]? = some ob2 := by simpa using hob2
    have hblt1 : b1 < l.toArray.size := (Array.getElem?_eq_some_iff.1 hob1).1
    have hblt2 : b2 < l.toArray.size := (Array.getElem?_eq_some_iff.1 hob2).1
    rw [wpTree, pick_one hob1', pick_one hob2'] at h
    refine ⟨hcw, fun h0 => (by rw [hr] at h0; cases h0), fun i hi => ?_⟩
    rw [hr] at hi
    have hi' : i = b1 ∨ i = b2 := by simpa using hi
    rcases hi' with rfl | rfl
    · refine wpOp_mono (fun a'' w'' h'' => wpAnyC_tree hsel hQ hdr t1 _ a'' w'' (closed_set hcl hbr1) (by simpa using hsz) hB1 (fun hzf => ?_) h''.2) (wpList_pick hob1 h.1)
      rcases h''.1 with e | hc'
      · subst e
        simp [show i < listed.size by omega] at hzf
      · exact hc'
    · refine wpOp_mono (fun a'' w'' h'' => hfu ▸ wpAnyC_tree hsel hQ hdr t2 _ a'' w'' (closed_set hcl hbr2) (by simpa using hsz) hB2 (fun hzf => ?_) h''.2) (wpList_pick hob2 h.2)
      rcases h''.1 with e | hc'
      · subst e
        simp [show i < listed.size by omega] at hzf
      · exact hc'

/-- A region that draws its order, by a plan that may part: asked in the world behind the draw. -/
theorem wp_tree {id : Nat} {a : Act} {w : World} (Cl : World → Prop) (z : Nat) (t : Tree) (hm : P.follows .mixedOrders = true) (hB : planOkT l.toArray z t = true)
    (hQ : ∀ c a w dst v, Q (.panic c) (a.put dst v) w → Q (.panic c) a w) (hdr : ∀ w n, Cl w → Cl (w.drewN n)) (hcw : Cl w)
    (h : ∀ n, wpTree P l Q Cl z t a (w.drewN n)) : (Code.region id l.toArray true).wp P Q a w := by
  simp only [planOkT, Bool.and_eq_true, decide_eq_true_eq] at hB
  have h2 := wpAnyC_tree (md := .any) hB.1.1 hQ hdr t _ a (w.drewN 1) closed_start (by simp) hB.2 (fun _ => hdr w 1 hcw) (h 1)
  rw [hB.1.2] at h2
  exact wp_region_any hm h2.any
end
end Go.Proofs.Ytlaahdjdlekopaa
