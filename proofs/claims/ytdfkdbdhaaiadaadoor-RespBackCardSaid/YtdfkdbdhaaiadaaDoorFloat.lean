/- Plans with operations that float past a barrier: they yield one value in every world of a class that the barrier keeps. For any program. -/
import Derived.Test.YtdfkdbdhaaiadaaDoorPlan
namespace Go.Proofs.YtdfkdbdhaaiadaaDoor
section
variable {P : Program} {ops : Array Oper} {md : Region.Mode} {Q : Exit → Act → World → Prop} {Cl : World → Prop} {z : Nat}

/-- Whatever order is picked; every world on the way is of the class. -/
def wpAnyC (P : Program) (md : Region.Mode) (ops : Array Oper) (Q : Exit → Act → World → Prop) (Cl : World → Prop) (z : Nat) : Nat → Array Bool → Act → World → Prop
  | 0, listed, a, w => (listed.getD z false = false → Cl w) ∧ Region.ready md ops listed = [] ∧ Q .normal a w
  | f + 1, listed, a, w => (listed.getD z false = false → Cl w) ∧ (Region.ready md ops listed = [] → Q .normal a w) ∧
    ∀ i ∈ Region.ready md ops listed, wpOp P ops Q i (wpAnyC P md ops Q Cl z f (listed.setIfInBounds i true)) a w

theorem wpAnyC.any : ∀ {f : Nat} {listed : Array Bool} {a : Act} {w : World}, wpAnyC P md ops Q Cl z f listed a w → wpAny P md ops Q f listed a w
  | 0, _, _, _, h => h.2
  | _ + 1, _, _, _, h => ⟨h.2.1, fun i hi => wpOp_mono (fun _ _ h' => wpAnyC.any h') (h.2.2 i hi)⟩

theorem wpAnyC.cl {f : Nat} {listed : Array Bool} {a : Act} {w : World} (h : wpAnyC P md ops Q Cl z f listed a w) : listed.getD z false = false → Cl w := by
  cases f <;> exact h.1

/-- In every world of the class the operation yields v (or nothing, v being 'undef'), and leaves that world. -/
def stillV (w : World) (v : Value) : Result Next → Prop
  | .ok (.value u) w' => w' = w ∧ u = v
  | .ok .skip w' => w' = w ∧ v = undef
  | _ => False

theorem stillV_value (w : World) (v u : Value) (w' : World) : stillV w v (.ok (.value u) w') = (w' = w ∧ u = v) := rfl
theorem stillV_skip (w : World) (v : Value) (w' : World) : stillV w v (.ok .skip w') = (w' = w ∧ v = undef) := rfl

def FloatsIn (P : Program) (ops : Array Oper) (Cl : World → Prop) (o : Oper) (v : Value) (a : Act) : Prop :=
  (Region.wanted o (yielded ops a.tmps) = true ∧ ∀ w, Cl w → stillV w v ((execOp a.eval o).run P w)) ∨
  (Region.wanted o (yielded ops a.tmps) = false ∧ v = undef)

theorem FloatsIn.wpOp {i : Nat} {o : Oper} {v : Value} {a : Act} (hi : ops[i]? = some o) (hy : FloatsIn P ops Cl o v a) {K : Act → World → Prop} {w : World} (hw : Cl w)
    (h : K (a.put o.dst v) w) : wpOp P ops Q i K a w := by
  unfold Go.wpOp
  simp only [hi]
  rcases hy with ⟨hwa, hv⟩ | ⟨hwa, rfl⟩
  · simp only [hwa, if_true]
    left
    have h1 := hv w hw
    unfold Oper.wp
    generalize (execOp a.eval o).run P w = r at *
    cases r with
    | ok x w' =>
      cases x <;> simp only [stillV] at h1 <;> simp only [Oper.upon]
      case value u => obtain ⟨rfl, rfl⟩ := h1; exact h
      case skip => obtain ⟨rfl, rfl⟩ := h1; exact h
    | halt x w' => simp only [stillV] at h1
  · simp only [hwa, Bool.false_eq_true, if_false]; exact h

theorem FloatsIn.of_same {o : Oper} {v : Value} {a a' : Act} (hy : FloatsIn P ops Cl o v a) (he : execOp a'.eval o = execOp a.eval o)
    (hw : Region.wanted o (yielded ops a'.tmps) = Region.wanted o (yielded ops a.tmps)) : FloatsIn P ops Cl o v a' := by
  unfold FloatsIn at *
  rw [he, hw]
  exact hy

theorem wpOp_putC {j : Nat} {oi oj : Oper} {v : Value} (hj : ops[j]? = some oj) (hap : oi.apart ops oj = true)
    (hsi : ∀ cs b, oi.op ≠ .select cs b) (hsj : ∀ cs b, oj.op ≠ .select cs b)
    (hQ : ∀ c a w, Q (.panic c) (a.put oi.dst v) w → Q (.panic c) a w) {K : Act → World → Prop} {a : Act} {w : World}
    (hy : FloatsIn P ops Cl oi v a) (h : wpOp P ops Q j K (a.put oi.dst v) w) :
    wpOp P ops Q j (fun a' w' => FloatsIn P ops Cl oi v a' ∧ K (a'.put oi.dst v) w') a w := by
  obtain ⟨h1, h2, h3⟩ := Oper.apart_spec hap
  have keep : ∀ (a : Act), FloatsIn P ops Cl oi v a → ∀ u, FloatsIn P ops Cl oi v (a.put oj.dst u) := fun a hy u =>
    hy.of_same (execOp_put oi hsi a oj.dst u h3) (wanted_put oi a oj.dst u h3)
  have keepD : ∀ d, FloatsIn P ops Cl oi v { a with defers := d :: a.defers } := fun d => hy.of_same rfl rfl
  unfold wpOp at *
  simp only [hj] at *
  rw [wanted_put oj a oi.dst v h1] at h
  split
  · rename_i hw
    simp only [hw, if_true] at h
    rcases h with h | ⟨hasks, hlets⟩
    case inr => exact .inr ⟨by unfold Oper.asks at *; rw [execOp_put oj hsj a oi.dst v h1] at hasks; exact hasks, hlets⟩
    refine .inl ?_
    unfold Oper.wp at *
    rw [execOp_put oj hsj a oi.dst v h1] at h
    generalize (execOp a.eval oj).run P w = r at *
    cases r with
    | ok n w' =>
      cases n <;> simp only [Oper.upon] at h ⊢
      case value u => exact ⟨keep a hy u, by rw [← Act.put_comm a v u h2]; exact h⟩
      case skip => exact ⟨keep a hy _, by rw [← Act.put_comm a v undef h2]; exact h⟩
      case defer d =>
        refine ⟨keep _ (keepD d) _, ?_⟩
        rw [← Act.put_comm _ v undef h2, ← Act.put_defers]
        exact h
      case enter f args =>
        refine Calls.mono h fun e w'' he => ?_
        cases e with
        | returned u => exact ⟨keep a hy u, by rw [← Act.put_comm a v u h2]; exact he⟩
        | panicked c => exact hQ _ _ _ he
        | outgrown => exact he
      case row row args => exact Rows.mono h fun u w'' he => ⟨keep a hy u, by rw [← Act.put_comm a v u h2]; exact he⟩
    | halt x w' =>
      cases x <;> simp only [Oper.upon] at h ⊢
      case panic u => exact hQ _ _ _ h
  · rename_i hw
    simp only [hw] at h
    exact ⟨keep a hy _, by rw [← Act.put_comm a v undef h2]; exact h⟩

/-- A floating operation may be taken first (behind operation z the class is asked no more: z waits for whoever floats). -/
theorem wpAnyC_first {i : Nat} {oi : Oper} {v : Value} (hi : ops[i]? = some oi) (hsel : ∀ (j : Nat) (o : Oper) cs b, ops[j]? = some o → o.op ≠ .select cs b)
    (hQ : ∀ c a w, Q (.panic c) (a.put oi.dst v) w → Q (.panic c) a w) (hz : ops.size ≤ z ∨ Region.waitsFor md ops z i = true) :
    ∀ (fuel : Nat) (listed : Array Bool) (a : Act) (w : World), Closed md ops listed → listed.size = ops.size → Cl w →
      (∀ j oj, ops[j]? = some oj → j ≠ i → listed.getD j true = false → (∀ e ∈ oj.after, Region.binds md e = true → e.on ≠ i) → oi.apart ops oj = true) →
      i ∈ Region.ready md ops listed → FloatsIn P ops Cl oi v a →
      wpAnyC P md ops Q Cl z fuel (listed.setIfInBounds i true) (a.put oi.dst v) w → wpAnyC P md ops Q Cl z (fuel + 1) listed a w := by
  intro fuel
  induction fuel with
  | zero =>
    intro listed a w _ _ hcw _ hr hy H
    refine ⟨fun _ => hcw, fun h => (by rw [h] at hr; cases hr), fun j hj => ?_⟩
    by_cases hji : j = i
    · subst hji; exact hy.wpOp hi hcw H
    · have := ready_mono hj hji
      rw [H.2.1] at this
      cases this
  | succ fuel ih =>
    intro listed a w hcl hsz hcw hfree hr hy H
    refine ⟨fun _ => hcw, fun h => (by rw [h] at hr; cases hr), fun j hj => ?_⟩
    by_cases hji : j = i
    · subst hji; exact hy.wpOp hi hcw H
    · have h1 := H.2.2 j (ready_mono hj hji)
      obtain ⟨hjun, oj, hoj, hall⟩ := mem_ready.1 hj
      have h0 := (mem_ready.1 hr).1
      have hnot : ∀ e ∈ oj.after, Region.binds md e = true → e.on ≠ i := fun e he hb heq => by
        have h1 := hall e he hb
        rw [heq, getD_both h0] at h1
        cases h1
      have hzu : ((listed.setIfInBounds i true).setIfInBounds j true).getD z false = false := by
        rcases hz with hz | hz
        · have : ((listed.setIfInBounds i true).setIfInBounds j true).size ≤ z := by simp [hsz]; exact hz
          simp [Array.getElem?_eq_none this]
        · obtain ⟨oz, hoz, e, he, hb, hon⟩ := Region.waitsFor_spec hz
          have hzj : j ≠ z := fun e' => by
            subst e'
            have : oj = oz := Option.some.inj (hoj.symm.trans hoz)
            subst this
            exact hnot e he hb hon
          have hzi : i ≠ z := fun e' => by
            subst e'
            have := (mem_ready.1 hr).2
            obtain ⟨oi', hoi', hall'⟩ := this
            have : oi' = oz := Option.some.inj (hoi'.symm.trans hoz)
            subst this
            have h1 := hall' e he hb
            rw [hon, getD_both h0] at h1
            cases h1
          rw [getD_set_ne false hzj, getD_set_ne false hzi]
          cases hl : listed.getD z false with
          | false => rfl
          | true =>
            have h1 := hcl z oz hoz hl e he hb
            rw [hon, getD_both h0] at h1
            cases h1
      have h2 := wpOp_putC hoj (hfree j oj hoj hji hjun hnot) (fun cs b => hsel i oi cs b hi) (fun cs b => hsel j oj cs b hoj) hQ hy h1
      have hfree' : ∀ k ok, ops[k]? = some ok → k ≠ i → (listed.setIfInBounds j true).getD k true = false →
          (∀ e ∈ ok.after, Region.binds md e = true → e.on ≠ i) → oi.apart ops ok = true := fun k ok hk hki hun hno => by
        refine hfree k ok hk hki ?_ hno
        by_cases hjk : j = k
        · subst hjk; exact hjun
        · rw [getD_set_ne true hjk] at hun; exact hun
      refine wpOp_mono (fun a' w' h3 => ih (listed.setIfInBounds j true) a' w' (closed_set hcl hj) (by simpa using hsz) (wpAnyC.cl h3.2 hzu) hfree' (ready_mono hr (Ne.symm hji)) h3.1 ?_) h2
      rw [Array.setIfInBounds_comm _ _ hji]
      exact h3.2

theorem unlisted_before {listed : Array Bool} {i z : Nat} (h : (listed.setIfInBounds i true).getD z false = false) : listed.getD z false = false := by
  cases hl : listed.getD z false with
  | false => rfl
  | true => rw [getD_set_true hl] at h; cases h

theorem marks_false {z : Nat} : ∀ (H : List Nat) (listed : Array Bool), (marks H listed).getD z false = false → listed.getD z false = false
  | [], _, h => h
  | _ :: H, _, h => unlisted_before (marks_false H _ h)

theorem marks_size : ∀ (H : List Nat) (listed : Array Bool), (marks H listed).size = listed.size
  | [], _ => rfl
  | i :: H, listed => by rw [marks, marks_size H]; simp

theorem wpAnyC_of_headH {C : World → Prop} {H : List Nat} {g : Nat} {L : Array Bool → Act → Prop} (fl : Bool) (hC : fl = false → ∀ w, C w → Cl w) (hL : ∀ listed a w, C w → L listed a → wpAnyC P md ops Q Cl z g listed a w) :
    ∀ (f : Nat) (listed : Array Bool) (a : Act) (w : World), (listed.getD z false = false → fl = false) → C w → wpAnyH P md ops C H L f listed a → wpAnyC P md ops Q Cl z (f + g) listed a w
  | 0, listed, a, w, _, hw, h => by rw [Nat.zero_add]; exact hL _ _ _ hw h
  | f + 1, listed, a, w, hfl, hw, h => by
    rw [show f + 1 + g = (f + g) + 1 by omega]
    exact ⟨fun hz => hC (hfl hz) w hw, fun h0 => absurd h0 h.1, fun i hi => wpOp_of_qOp hw (fun a' w' hw' h' => wpAnyC_of_headH fl hC hL f _ a' w' (fun hz => hfl (unlisted_before hz)) hw' h') (h.2 i hi).2⟩

theorem wpAnyC_of_quiet {C : World → Prop} {Q0 : Act → Prop} (fl : Bool) (hC : fl = false → ∀ w, C w → Cl w) (hQ : ∀ a w, C w → Q0 a → Q .normal a w) : ∀ (fuel : Nat) (listed : Array Bool) (a : Act) (w : World), (listed.getD z false = false → fl = false) → C w →
    wpAnyQ P md ops C Q0 fuel listed a → wpAnyC P md ops Q Cl z fuel listed a w
  | 0, _, _, w, hfl, hw, h => ⟨fun hz => hC (hfl hz) w hw, h.1, hQ _ _ hw h.2⟩
  | fuel + 1, _, _, w, hfl, hw, h => ⟨fun hz => hC (hfl hz) w hw, fun h0 => hQ _ _ hw (h.1 h0), fun i hi => wpOp_of_qOp hw (fun a' w' hw' => wpAnyC_of_quiet fl hC hQ fuel _ a' w' (fun hz => hfl (unlisted_before hz)) hw') (h.2 i hi)⟩

/-- A step of a plan: quiet operations and a barrier; or one that floats. -/
inductive Step where
  | seg (H : List Nat) (b : Nat)
  | flt (i : Nat)

def planBC (md : Region.Mode) (ops : Array Oper) (z : Nat) : List Step → List Nat → Array Bool → Bool
  | [], Hf, listed => headB md ops Hf listed && (Region.ready md ops (marks Hf listed)).isEmpty
  | .flt i :: rest, Hf, listed => (Region.ready md ops listed).contains i && Region.free md ops listed i && (decide (ops.size ≤ z) || Region.waitsFor md ops z i) && planBC md ops z rest Hf (listed.setIfInBounds i true)
  | .seg H b :: rest, Hf, listed =>
    headB md ops H listed && decide (Region.ready md ops (marks H listed) = [b]) && !H.contains b &&
    sinkChain md ops b H && sinkRest md ops (fun t => !listed.getD t true && !H.contains t) b &&
    planBC md ops z rest Hf ((marks H listed).setIfInBounds b true)

def planFuelC : List Step → List Nat → Nat
  | [], Hf => Hf.length
  | .flt _ :: rest, Hf => planFuelC rest Hf + 1
  | .seg H _ :: rest, Hf => H.length + (1 + planFuelC rest Hf)

def planOkC (ops : Array Oper) (z : Nat) (plan : List Step) (Hf : List Nat) : Bool :=
  Region.noSelect ops && decide (planFuelC plan Hf = ops.size) && planBC .any ops z plan Hf (Array.replicate ops.size false)
end

section
variable {P : Program} {l : List Oper} {md : Region.Mode} {Q : Exit → Act → World → Prop} {Cl : World → Prop} {z : Nat}

/-- A floating operation: its one value. -/
def wpFloat (P : Program) (ops : Array Oper) (Cl : World → Prop) (K : Act → Prop) : List Oper → Act → Prop
  | [], a => K a
  | o :: _, a => ∃ v, (Region.wanted o (yielded ops a.tmps) = true → ∀ w, Cl w → stillV w v ((execOp a.eval o).run P w)) ∧ (Region.wanted o (yielded ops a.tmps) = false → v = undef) ∧ K (a.put o.dst v)

theorem wpFloat_step {ops : Array Oper} {K : Act → Prop} {o : Oper} {rest : List Oper} {a : Act} (v : Value) (hg : o.guard = none) (h : ∀ w, Cl w → stillV w v ((execOp a.eval o).run P w)) (hk : K (a.put o.dst v)) : wpFloat P ops Cl K (o :: rest) a :=
  ⟨v, fun _ => h, fun hw => by simp [Region.wanted, hg] at hw, hk⟩

def wpPlanC (P : Program) (l : List Oper) (Q : Exit → Act → World → Prop) (Cl : World → Prop) (z : Nat) : List Step → List Nat → Act → World → Prop
  | [], [], a, w => Q .normal a w
  | [], i :: Hf, a, w => wpQuiet P l.toArray (fun w' => ∃ n, w' = w.drewN n) (fun a' => ∀ w', (∃ n, w' = w.drewN n) → Q .normal a' w') (pick l (i :: Hf)) a
  | .flt i :: rest, Hf, a, w => wpFloat P l.toArray Cl (fun a' => wpPlanC P l Q Cl z rest Hf a' w) (pick l [i]) a
  | .seg [] b :: rest, Hf, a, w => wpList P l.toArray (Exit.then (fun a w => Halt ((b = z ∨ Cl w) ∧ wpPlanC P l Q Cl z rest Hf a w) () () () () () ()) Q) (pick l [b]) a w
  | .seg (i :: H) b :: rest, Hf, a, w => wpQuiet P l.toArray (fun w' => ∃ n, w' = w.drewN n)
      (fun a' => ∀ w', (∃ n, w' = w.drewN n) → wpList P l.toArray (Exit.then (fun a w => Halt ((b = z ∨ Cl w) ∧ wpPlanC P l Q Cl z rest Hf a w) () () () () () ()) Q) (pick l [b]) a' w') (pick l (i :: H)) a

theorem planC_flt {i : Nat} {rest : List Step} {Hf : List Nat} {a : Act} {w : World} {o : Oper} (ho : l[i]? = some o) (hg : o.guard = none)
    (h : ∃ v, (∀ w, Cl w → stillV w v ((execOp a.eval o).run P w)) ∧ wpPlanC P l Q Cl z rest Hf (a.put o.dst v) w) : wpPlanC P l Q Cl z (.flt i :: rest) Hf a w := by
  obtain ⟨v, h, hk⟩ := h
  rw [wpPlanC, pick_one ho]
  exact wpFloat_step v hg h hk

theorem put_defers (a : Act) (dst : Option Tmp) (v : Value) : (a.put dst v).defers = a.defers := by cases dst <;> rfl

theorem wpAnyC_plan (hsel : Region.noSelect l.toArray = true) (hQ : ∀ c a w dst v, Q (.panic c) (a.put dst v) w → Q (.panic c) a w) (hdr : ∀ w n, Cl w → Cl (w.drewN n)) :
    ∀ (plan : List Step) (Hf : List Nat) (listed : Array Bool) (a : Act) (w : World),
    Closed md l.toArray listed → listed.size = l.toArray.size → planBC md l.toArray z plan Hf listed = true → (listed.getD z false = false → Cl w) → wpPlanC P l Q Cl z plan Hf a w → wpAnyC P md l.toArray Q Cl z (planFuelC plan Hf) listed a w
  | [], [], listed, a, w, _, _, hB, hcw, h => by
    simp only [planBC, headB, marks, Bool.true_and, List.isEmpty_iff] at hB
    exact ⟨hcw, hB, h⟩
  | [], i :: Hf, listed, a, w, _, _, hB, hcw, h => by
    simp only [planBC, Bool.and_eq_true, List.isEmpty_iff] at hB
    exact wpAnyC_of_quiet (C := fun w' => ∃ n, w' = w.drewN n) (Q0 := fun a' => ∀ w', (∃ n, w' = w.drewN n) → Q .normal a' w') (listed.getD z false) (fun hz w' ⟨n, e⟩ => e ▸ hdr w n (hcw hz)) (fun _ w' hw' h => h w' hw') _ _ _ _ (fun h => h) ⟨0, rfl⟩
      (wpAnyQ_list (C := fun w' => ∃ n, w' = w.drewN n) hsel (i :: Hf) listed a hB.1 hB.2 h)
  | .flt i :: rest, Hf, listed, a, w, hcl, hsz, hB, hcw, h => by
    simp only [planBC, Bool.and_eq_true, Bool.or_eq_true, decide_eq_true_eq] at hB
    obtain ⟨⟨⟨hr, hf⟩, hz⟩, hB2⟩ := hB
    have hr' : i ∈ Region.ready md l.toArray listed := by simpa using hr
    obtain ⟨h0, oi, hoi, hall⟩ := mem_ready.1 hr'
    have hoi' : l[i]? = some oi := by simpa using hoi
    simp only [wpPlanC, pick_one hoi', wpFloat] at h
    obtain ⟨v, h1, h2, h3⟩ := h
    have hzl : listed.getD z false = false := by
      rcases hz with hz | hz
      · simp [Array.getElem?_eq_none (show listed.size ≤ z by omega)]
      · obtain ⟨oz, hoz, e, he, hb, hon⟩ := Region.waitsFor_spec hz
        cases hl : listed.getD z false with
        | false => rfl
        | true =>
          have h4 := hcl z oz hoz hl e he hb
          rw [hon, getD_both h0] at h4
          cases h4
    refine wpAnyC_first hoi (Region.noSelect_spec hsel) (fun c a w => hQ c a w _ _) hz _ listed a w hcl hsz (hcw hzl) (Region.free_spec hoi hf) hr' ?_
      (wpAnyC_plan hsel hQ hdr rest Hf _ _ w (closed_set hcl hr') (by simpa using hsz) hB2 (fun _ => hcw hzl) h3)
    by_cases hwa : Region.wanted oi (yielded l.toArray a.tmps) = true
    · exact .inl ⟨hwa, h1 hwa⟩
    · have hwa' : Region.wanted oi (yielded l.toArray a.tmps) = false := by simpa using hwa
      exact .inr ⟨hwa', h2 hwa'⟩
  | .seg H b :: rest, Hf, listed, a, w, hcl, hsz, hB, hcw, h => by
    simp only [planBC, Bool.and_eq_true, decide_eq_true_eq, Bool.not_eq_true'] at hB
    obtain ⟨⟨⟨⟨⟨hB1, hr⟩, hbH⟩, hc⟩, hs⟩, hB2⟩ := hB
    have hbH' : b ∉ H := by simpa using hbH
    have hbr : b ∈ Region.ready md l.toArray (marks H listed) := by rw [hr]; simp
    obtain ⟨_, ob, hob, _⟩ := mem_ready.1 hbr
    have hob' : l[b]? = some ob := by simpa using hob
    have hms : (marks H listed).size = l.toArray.size := (marks_size H listed).trans hsz
    have hblt : b < l.toArray.size := (Array.getElem?_eq_some_iff.1 hob).1
    have step : ∀ (a' : Act) (w' : World), ((marks H listed).getD z false = false → Cl w') → wpList P l.toArray (Exit.then (fun a w => Halt ((b = z ∨ Cl w) ∧ wpPlanC P l Q Cl z rest Hf a w) () () () () () ()) Q) (pick l [b]) a' w' → wpAnyC P md l.toArray Q Cl z (1 + planFuelC rest Hf) (marks H listed) a' w' := by
      intro a' w' hcw' h'
      rw [pick_one hob'] at h'
      rw [Nat.add_comm]
      refine ⟨hcw', fun h0 => (by rw [hr] at h0; cases h0), fun i hi => ?_⟩
      rw [hr] at hi
      have : i = b := by simpa using hi
      subst this
      refine wpOp_mono (fun a'' w'' h'' => wpAnyC_plan hsel hQ hdr rest Hf _ a'' w'' (closed_set (closed_head hcl hB1) hbr) (by simpa using hms) hB2 (fun hzf => ?_) h''.2) (wpList_pick hob h')
      rcases h''.1 with e | hc'
      · subst e
        simp [show i < (marks H listed).size by omega] at hzf
      · exact hc'
    cases H with
    | nil =>
      rw [planFuelC, List.length_nil, Nat.zero_add]
      exact step a w hcw h
    | cons i H =>
      refine wpAnyC_of_headH (C := fun w' => ∃ n, w' = w.drewN n) (H := i :: H) (L := fun listed' a' => listed' = marks (i :: H) listed ∧ ∀ w', (∃ n, w' = w.drewN n) → wpList P l.toArray (Exit.then (fun a w => Halt ((b = z ∨ Cl w) ∧ wpPlanC P l Q Cl z rest Hf a w) () () () () () ()) Q) (pick l [b]) a' w')
        (listed.getD z false) (fun hz w' ⟨n, e⟩ => e ▸ hdr w n (hcw hz)) (fun listed' a' w' hw' hL => by
          obtain ⟨rfl, hL⟩ := hL
          refine step a' w' (fun hzf => ?_) (hL w' hw')
          obtain ⟨n, rfl⟩ := hw'
          exact hdr w n (hcw (marks_false _ _ hzf))) _ _ _ _ (fun h => h) ⟨0, rfl⟩ ?_
      exact head_then hsel hcl hB1 hr hbH' hc hs h

/-- A region that draws its order, by a plan in which some float: asked in the world behind the draw. -/
theorem wp_planC {id : Nat} {a : Act} {w : World} (Cl : World → Prop) (z : Nat) (plan : List Step) (Hf : List Nat) (hm : P.follows .mixedOrders = true) (hB : planOkC l.toArray z plan Hf = true)
    (hQ : ∀ c a w dst v, Q (.panic c) (a.put dst v) w → Q (.panic c) a w) (hdr : ∀ w n, Cl w → Cl (w.drewN n)) (hcw : Cl w)
    (h : ∀ n, wpPlanC P l Q Cl z plan Hf a (w.drewN n)) : (Code.region id l.toArray true).wp P Q a w := by
  simp only [planOkC, Bool.and_eq_true, decide_eq_true_eq] at hB
  have h2 := wpAnyC_plan (md := .any) hB.1.1 hQ hdr plan Hf _ a (w.drewN 1) closed_start (by simp) hB.2 (fun _ => hdr w 1 hcw) (h 1)
  rw [hB.1.2] at h2
  exact wp_region_any hm h2.any
end
end Go.Proofs.YtdfkdbdhaaiadaaDoor
