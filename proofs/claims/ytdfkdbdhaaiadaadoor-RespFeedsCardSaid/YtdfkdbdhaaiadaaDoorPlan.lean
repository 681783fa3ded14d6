/- Regions that draw their order, walked by a plan: quiet operations in any listed order, then one operation that all others wait for or stand behind, and so on. For any program. -/
import Derived.Deep.QuietTactic
import Derived.StillTail
import Derived.OrdersIn
import Derived.WalkKit
namespace Go.Proofs.YtdfkdbdhaaiadaaDoor
section
variable {P : Program} {ops : Array Oper} {md : Region.Mode} {C : World → Prop}

/-- Whatever order is picked while the quiet operations of H come up. -/
def wpAnyH (P : Program) (md : Region.Mode) (ops : Array Oper) (C : World → Prop) (H : List Nat) (L : Array Bool → Act → Prop) : Nat → Array Bool → Act → Prop
  | 0, listed, a => L listed a
  | f + 1, listed, a =>
    Region.ready md ops listed ≠ [] ∧ ∀ i ∈ Region.ready md ops listed, i ∈ H ∧ qOp P ops C i (wpAnyH P md ops C H L f (listed.setIfInBounds i true)) a

structure HInv (md : Region.Mode) (ops : Array Oper) (H : List Nat) (R : Nat → Bool) (listed : Array Bool) : Prop where
  cover : ∀ t, t < ops.size → listed.getD t true = false → t ∈ H ∨ R t = true
  closed : ∀ j oj, ops[j]? = some oj → listed.getD j false = true → ∀ e ∈ oj.after, Region.binds md e = true → listed.getD e.on false = true
  rest : ∀ t, t < ops.size → R t = true → listed.getD t true = false

theorem HInv.set {H : List Nat} {R : Nat → Bool} {i : Nat} {listed : Array Bool} (inv : HInv md ops H R listed) (hi : i ∈ Region.ready md ops listed) (hR : R i = false) : HInv md ops H R (listed.setIfInBounds i true) := by
  obtain ⟨_, oi, hoi, hall⟩ := mem_ready.1 hi
  refine ⟨fun t ht hl => ?_, fun j oj hj hl e he hb => ?_, fun t ht hRt => ?_⟩
  · by_cases hit : i = t
    · subst hit
      exact inv.cover i ht (mem_ready.1 hi).1
    · rw [getD_set_ne true hit] at hl
      exact inv.cover t ht hl
  · by_cases hij : i = j
    · subst hij
      have : oj = oi := Option.some.inj (hj.symm.trans hoi)
      subst this
      exact getD_set_true (hall e he hb)
    · rw [getD_set_ne false hij] at hl
      exact getD_set_true (inv.closed j oj hj hl e he hb)
  · have hne : i ≠ t := fun e => by subst e; rw [hR] at hRt; cases hRt
    rw [getD_set_ne true hne]; exact inv.rest t ht hRt

theorem HInv.ready {H : List Nat} {R : Nat → Bool} {j : Nat} {listed : Array Bool} (inv : HInv md ops H R listed) (hj : j ∈ Region.ready md ops listed) : j ∈ H ∨ R j = true := by
  obtain ⟨h0, o, ho, _⟩ := mem_ready.1 hj
  exact inv.cover j (Array.getElem?_eq_some_iff.1 ho).1 h0

def sinkChain (md : Region.Mode) (ops : Array Oper) (b : Nat) : List Nat → Bool
  | [] => true
  | i :: H => (Region.waitsFor md ops b i || H.any fun j => Region.waitsFor md ops j i) && sinkChain md ops b H

def sinkRest (md : Region.Mode) (ops : Array Oper) (R : Nat → Bool) (b : Nat) : Bool :=
  (List.range ops.size).all fun t => !R t || t == b || (List.range ops.size).any fun j => R j && Region.waitsFor md ops t j

theorem chain_waits {H0 : List Nat} {R : Nat → Bool} {b : Nat} {listed : Array Bool} (inv : HInv md ops H0 R listed) : ∀ (H : List Nat), sinkChain md ops b H = true →
    (∃ i ∈ H, listed.getD i false = false) → b ∉ Region.ready md ops listed
  | [], _, h => by obtain ⟨i, hi, _⟩ := h; cases hi
  | i :: H, hc, h => by
    simp only [sinkChain, Bool.and_eq_true, Bool.or_eq_true] at hc
    by_cases hH : ∃ j ∈ H, listed.getD j false = false
    · exact chain_waits inv H hc.2 hH
    · obtain ⟨k, hk, hun⟩ := h
      have hki : k = i := by
        rcases List.mem_cons.1 hk with h1 | h1
        · exact h1
        · exact absurd ⟨k, h1, hun⟩ hH
      subst hki
      intro hr
      obtain ⟨_, ob, hob, hall⟩ := mem_ready.1 hr
      rcases hc.1 with h1 | h1
      · obtain ⟨o', ho', e, he, hb, hon⟩ := Region.waitsFor_spec h1
        have : o' = ob := Option.some.inj (ho'.symm.trans hob)
        subst this
        have h2 := hall e he hb
        rw [hon, hun] at h2
        cases h2
      · obtain ⟨j, hj, h2⟩ := List.any_eq_true.1 h1
        obtain ⟨oj, hoj, e, he, hb, hon⟩ := Region.waitsFor_spec h2
        have hlj : listed.getD j false = true := by
          cases hl : listed.getD j false with
          | true => rfl
          | false => exact absurd ⟨j, hj, hl⟩ hH
        have h3 := inv.closed j oj hoj hlj e he hb
        rw [hon, hun] at h3
        cases h3

theorem rest_waits {R : Nat → Bool} {H : List Nat} {b : Nat} {listed : Array Bool} (inv : HInv md ops H R listed) (hc : sinkChain md ops b H = true) (hs : sinkRest md ops R b = true)
    (h : ∃ i ∈ H, listed.getD i false = false) {t : Nat} (hR : R t = true) : t ∉ Region.ready md ops listed := by
  intro hr
  obtain ⟨_, ot, hot, hall⟩ := mem_ready.1 hr
  have htlt : t < ops.size := (Array.getElem?_eq_some_iff.1 hot).1
  have h1 := List.all_eq_true.1 hs t (List.mem_range.2 htlt)
  simp only [hR, Bool.not_true, Bool.false_or, Bool.or_eq_true, beq_iff_eq] at h1
  rcases h1 with h1 | h1
  · subst h1; exact chain_waits inv H hc h hr
  · obtain ⟨j, hj, h2⟩ := List.any_eq_true.1 h1
    simp only [Bool.and_eq_true] at h2
    obtain ⟨o', ho', e, he, hb, hon⟩ := Region.waitsFor_spec h2.2
    have : o' = ot := Option.some.inj (ho'.symm.trans hot)
    subst this
    have h3 := hall e he hb
    rw [hon, getD_both (inv.rest j (List.mem_range.1 hj) h2.1)] at h3
    cases h3

theorem wpAnyH_first {R : Nat → Bool} {H : List Nat} {b i : Nat} {oi : Oper} {v : Value} {L : Array Bool → Act → Prop} (hi : ops[i]? = some oi)
    (hsel : ∀ (j : Nat) (o : Oper) cs b, ops[j]? = some o → o.op ≠ .select cs b)
    (hc : sinkChain md ops b H = true) (hs : sinkRest md ops R b = true)
    (hin : i ∈ H) (hHR : ∀ j ∈ H, R j = false)
    (hdone : ∀ listed a, L listed a → ∀ j ∈ Region.ready md ops listed, j ∉ H) :
    ∀ (f : Nat) (listed : Array Bool) (a : Act), HInv md ops H R listed →
      (∀ j oj, ops[j]? = some oj → j ≠ i → listed.getD j true = false → (∀ e ∈ oj.after, Region.binds md e = true → e.on ≠ i) → oi.apart ops oj = true) →
      i ∈ Region.ready md ops listed → YieldsIn P ops C oi v a →
      wpAnyH P md ops C H L f (listed.setIfInBounds i true) (a.put oi.dst v) → wpAnyH P md ops C H L (f + 1) listed a := by
  intro f
  induction f with
  | zero =>
    intro listed a inv _ hr hy HH
    have hun := (mem_ready.1 hr).1
    refine ⟨fun h => (by rw [h] at hr; cases hr), fun j hj => ?_⟩
    have hjn : j ∈ H := by
      rcases inv.ready hj with h | h
      · exact h
      · exact absurd hj (rest_waits inv hc hs ⟨i, hin, getD_both hun⟩ h)
    refine ⟨hjn, ?_⟩
    by_cases hji : j = i
    · subst hji; exact hy.qOp hi HH
    · exact absurd hjn (hdone _ _ HH j (ready_mono hj hji))
  | succ f ih =>
    intro listed a inv hfree hr hy HH
    have hun := (mem_ready.1 hr).1
    refine ⟨fun h => (by rw [h] at hr; cases hr), fun j hj => ?_⟩
    have hjn : j ∈ H := by
      rcases inv.ready hj with h | h
      · exact h
      · exact absurd hj (rest_waits inv hc hs ⟨i, hin, getD_both hun⟩ h)
    refine ⟨hjn, ?_⟩
    by_cases hji : j = i
    · subst hji; exact hy.qOp hi HH
    · have h1 := (HH.2 j (ready_mono hj hji)).2
      obtain ⟨hjun, oj, hoj, hall⟩ := mem_ready.1 hj
      have hnot : ∀ e ∈ oj.after, Region.binds md e = true → e.on ≠ i := fun e he hb heq => by
        have h1 := hall e he hb
        rw [heq, getD_both hun] at h1
        cases h1
      have h2 := qOp_put hoj (hfree j oj hoj hji hjun hnot) (fun cs b => hsel i oi cs b hi) (fun cs b => hsel j oj cs b hoj) hy h1
      have hfree' : ∀ k ok, ops[k]? = some ok → k ≠ i → (listed.setIfInBounds j true).getD k true = false →
          (∀ e ∈ ok.after, Region.binds md e = true → e.on ≠ i) → oi.apart ops ok = true := fun k ok hk hki hun hno => by
        refine hfree k ok hk hki ?_ hno
        by_cases hjk : j = k
        · subst hjk; exact hjun
        · rw [getD_set_ne true hjk] at hun; exact hun
      refine qOp_mono (fun a' h3 => ih (listed.setIfInBounds j true) a' (inv.set hj (hHR j hjn)) hfree' (ready_mono hr (Ne.symm hji)) h3.1 ?_) h2
      rw [Array.setIfInBounds_comm _ _ hji]
      exact h3.2

/-- The quiet operations, one by one, in the plan's order. -/
def headB (md : Region.Mode) (ops : Array Oper) : List Nat → Array Bool → Bool
  | [], _ => true
  | i :: H, listed => (Region.ready md ops listed).contains i && Region.free md ops listed i && headB md ops H (listed.setIfInBounds i true)

def marks : List Nat → Array Bool → Array Bool
  | [], listed => listed
  | i :: H, listed => marks H (listed.setIfInBounds i true)

def pick (l : List Oper) (H : List Nat) : List Oper := H.filterMap fun i => l[i]?

theorem wpAnyH_list {R : Nat → Bool} {H : List Nat} {b : Nat} {Lq : Act → Prop} {M : Array Bool → Prop} (hsel : Region.noSelect ops = true)
    (hc : sinkChain md ops b H = true) (hs : sinkRest md ops R b = true) (hHR : ∀ j ∈ H, R j = false)
    (hM : ∀ listed, M listed → ∀ j ∈ Region.ready md ops listed, j ∉ H) :
    ∀ (H' : List Nat) (listed : Array Bool) (a : Act), (∀ j ∈ H', j ∈ H) → HInv md ops H R listed → headB md ops H' listed = true → M (marks H' listed) →
      wpQuiet P ops C Lq (pick ops.toList H') a → wpAnyH P md ops C H (fun listed' a' => M listed' ∧ Lq a') H'.length listed a
  | [], listed, a, _, inv, _, hm, h => ⟨hm, h⟩
  | i :: H', listed, a, hH', inv, hB, hm, h => by
    simp only [headB, Bool.and_eq_true] at hB
    obtain ⟨⟨hr, hf⟩, hB'⟩ := hB
    have hr' : i ∈ Region.ready md ops listed := by simpa using hr
    obtain ⟨_, oi, hoi, _⟩ := mem_ready.1 hr'
    have hp : pick ops.toList (i :: H') = oi :: pick ops.toList H' := by
      simp [pick, hoi]
    rw [hp] at h
    have hst : qOp P ops C i (wpQuiet P ops C Lq (pick ops.toList H')) a := by unfold qOp; simp only [hoi]; exact h
    obtain ⟨v, hy, hK⟩ := yieldsIn_of_qOp hoi hst
    exact wpAnyH_first (R := R) hoi (Region.noSelect_spec hsel) hc hs (hH' i (by simp)) hHR (fun listed' a' hL => hM _ hL.1)
      H'.length listed a inv (Region.free_spec hoi hf) hr' hy
      (wpAnyH_list hsel hc hs hHR hM H' _ _ (fun j hj => hH' j (List.mem_cons_of_mem _ hj)) (inv.set hr' (hHR i (hH' i (by simp)))) hB' hm hK)

theorem wpAny_of_headH {H : List Nat} {g : Nat} {L : Array Bool → Act → Prop} {Q' : Exit → Act → World → Prop} (hL : ∀ listed a w, C w → L listed a → wpAny P md ops Q' g listed a w) :
    ∀ (f : Nat) (listed : Array Bool) (a : Act) (w : World), C w → wpAnyH P md ops C H L f listed a → wpAny P md ops Q' (f + g) listed a w
  | 0, listed, a, w, hw, h => by rw [Nat.zero_add]; exact hL _ _ _ hw h
  | f + 1, listed, a, w, hw, h => by
    rw [show f + 1 + g = (f + g) + 1 by omega]
    exact ⟨fun h0 => absurd h0 h.1, fun i hi => wpOp_of_qOp hw (fun a' w' hw' h' => wpAny_of_headH hL f _ a' w' hw' h') (h.2 i hi).2⟩

theorem wpAnyIn_of_headH {n : Nat} {H : List Nat} {g : Nat} {L : Array Bool → Act → Prop} {Q' : Exit → Act → World → Prop} (hL : ∀ listed a w, C w → L listed a → wpAnyIn Fence.wide n P md ops Q' g listed a w) :
    ∀ (f : Nat) (listed : Array Bool) (a : Act) (w : World), C w → wpAnyH P md ops C H L f listed a → wpAnyIn Fence.wide n P md ops Q' (f + g) listed a w
  | 0, listed, a, w, hw, h => by rw [Nat.zero_add]; exact hL _ _ _ hw h
  | f + 1, listed, a, w, hw, h => by
    rw [show f + 1 + g = (f + g) + 1 by omega]
    refine ⟨fun h0 => absurd h0 h.1, fun i hi => ?_⟩
    have hq := (h.2 i hi).2
    unfold qOp at hq
    unfold wpOpIn
    split
    · rename_i ho; simp only [ho] at hq; exact wpAnyIn_of_headH hL f _ _ w hw hq
    · rename_i o ho
      simp only [ho] at hq
      split
      · rename_i hwa
        simp only [hwa, if_true] at hq
        obtain ⟨v, h1, h2⟩ := hq
        have h3 := h1 w hw
        unfold Oper.quietAt at h3
        refine ⟨fun _ _ => trivial, ?_⟩
        rw [show Fence.wide.round = none from rfl, Oper.semAt_none]
        generalize (execOp a.eval o).run P w = r at *
        cases r with
        | ok x w' =>
          cases x <;> simp only [Oper.quietUpon] at h3 <;> simp only [Oper.uponIn]
          case value u =>
            obtain ⟨e1, e2⟩ := h3
            rw [e1, e2]
            exact wpAnyIn_of_headH hL f _ _ w hw h2
          case skip =>
            obtain ⟨e1, e2⟩ := h3
            rw [e1, ← e2]
            exact wpAnyIn_of_headH hL f _ _ w hw h2
          case enter fn args =>
            obtain ⟨e1, hcalls⟩ := h3
            rw [e1]
            refine ⟨fun h => by simp [Fence.wide] at h, callsIn_wide.2 (hcalls.mono fun e w'' ⟨he, hw''⟩ => ?_)⟩
            subst he
            exact wpAnyIn_of_headH hL f _ _ w'' hw'' h2
        | halt x w' => simp only [Oper.quietUpon] at h3
      · rename_i hwa
        simp only [hwa] at hq
        exact ⟨fun _ _ => trivial, wpAnyIn_of_headH hL f _ _ w hw hq⟩

theorem wpAnyIn_of_quiet {n : Nat} {Q : Act → Prop} {Q' : Exit → Act → World → Prop} (hQ : ∀ a w, C w → Q a → Q' .normal a w) : ∀ (f : Nat) (listed : Array Bool) (a : Act) (w : World), C w →
    wpAnyQ P md ops C Q f listed a → wpAnyIn Fence.wide n P md ops Q' f listed a w
  | 0, _, _, _, hw, h => ⟨h.1, hQ _ _ hw h.2⟩
  | f + 1, listed, a, w, hw, h => by
    refine ⟨fun h0 => hQ _ _ hw (h.1 h0), fun i hi => ?_⟩
    have hq := h.2 i hi
    unfold qOp at hq
    unfold wpOpIn
    split
    · rename_i ho; simp only [ho] at hq; exact wpAnyIn_of_quiet hQ f _ _ w hw hq
    · rename_i o ho
      simp only [ho] at hq
      split
      · rename_i hwa
        simp only [hwa, if_true] at hq
        obtain ⟨v, h1, h2⟩ := hq
        have h3 := h1 w hw
        unfold Oper.quietAt at h3
        refine ⟨fun _ _ => trivial, ?_⟩
        rw [show Fence.wide.round = none from rfl, Oper.semAt_none]
        generalize (execOp a.eval o).run P w = r at *
        cases r with
        | ok x w' =>
          cases x <;> simp only [Oper.quietUpon] at h3 <;> simp only [Oper.uponIn]
          case value u =>
            obtain ⟨e1, e2⟩ := h3
            rw [e1, e2]
            exact wpAnyIn_of_quiet hQ f _ _ w hw h2
          case skip =>
            obtain ⟨e1, e2⟩ := h3
            rw [e1, ← e2]
            exact wpAnyIn_of_quiet hQ f _ _ w hw h2
          case enter fn args =>
            obtain ⟨e1, hcalls⟩ := h3
            rw [e1]
            refine ⟨fun h => by simp [Fence.wide] at h, callsIn_wide.2 (hcalls.mono fun e w'' ⟨he, hw''⟩ => ?_)⟩
            subst he
            exact wpAnyIn_of_quiet hQ f _ _ w'' hw'' h2
        | halt x w' => simp only [Oper.quietUpon] at h3
      · rename_i hwa
        simp only [hwa] at hq
        exact ⟨fun _ _ => trivial, wpAnyIn_of_quiet hQ f _ _ w hw hq⟩

/-- The plan's Bool. -/
def planB (md : Region.Mode) (ops : Array Oper) : List (List Nat × Nat) → List Nat → Array Bool → Bool
  | [], Hf, listed => headB md ops Hf listed && (Region.ready md ops (marks Hf listed)).isEmpty
  | (H, b) :: rest, Hf, listed =>
    headB md ops H listed && decide (Region.ready md ops (marks H listed) = [b]) && !H.contains b &&
    sinkChain md ops b H && sinkRest md ops (fun t => !listed.getD t true && !H.contains t) b &&
    planB md ops rest Hf ((marks H listed).setIfInBounds b true)

def planFuel : List (List Nat × Nat) → List Nat → Nat
  | [], Hf => Hf.length
  | (H, _) :: rest, Hf => H.length + (1 + planFuel rest Hf)

def planOk (ops : Array Oper) (plan : List (List Nat × Nat)) (Hf : List Nat) : Bool :=
  Region.noSelect ops && decide (planFuel plan Hf = ops.size) && planB .any ops plan Hf (Array.replicate ops.size false)

theorem headB_inv {H0 : List Nat} {R : Nat → Bool} : ∀ (H : List Nat) (listed : Array Bool), (∀ i ∈ H, R i = false) → HInv md ops H0 R listed → headB md ops H listed = true → HInv md ops H0 R (marks H listed)
  | [], _, _, inv, _ => inv
  | i :: H, listed, hR, inv, hB => by
    simp only [headB, Bool.and_eq_true] at hB
    exact headB_inv H _ (fun j hj => hR j (List.mem_cons_of_mem _ hj)) (inv.set (by simpa using hB.1.1) (hR i (by simp))) hB.2

/-- The state between two pieces of a plan: whoever is listed has those listed that it waits for. -/
def Closed (md : Region.Mode) (ops : Array Oper) (listed : Array Bool) : Prop :=
  ∀ j oj, ops[j]? = some oj → listed.getD j false = true → ∀ e ∈ oj.after, Region.binds md e = true → listed.getD e.on false = true

theorem closed_start : Closed md ops (Array.replicate ops.size false) := fun j oj _ hl => by rw [getD_replicate_false] at hl; cases hl

theorem start_inv {H : List Nat} {listed : Array Bool} (hc : Closed md ops listed) : HInv md ops H (fun t => !listed.getD t true && !H.contains t) listed :=
  ⟨fun t _ hl => by
      by_cases h : t ∈ H
      · exact .inl h
      · right; rw [hl]; simpa using h,
    hc, fun t _ hR => by simp only [Bool.and_eq_true, Bool.not_eq_true'] at hR; exact hR.1⟩

theorem closed_set {b : Nat} {listed : Array Bool} (hc : Closed md ops listed) (hb : b ∈ Region.ready md ops listed) : Closed md ops (listed.setIfInBounds b true) := fun j oj hj hl e he hbd => by
  obtain ⟨_, oi, hoi, hall⟩ := mem_ready.1 hb
  by_cases hij : b = j
  · subst hij
    have : oj = oi := Option.some.inj (hj.symm.trans hoi)
    subst this
    exact getD_set_true (hall e he hbd)
  · rw [getD_set_ne false hij] at hl
    exact getD_set_true (hc j oj hj hl e he hbd)

theorem wpAnyQ_list {Lq : Act → Prop} (hsel : Region.noSelect ops = true) : ∀ (H : List Nat) (listed : Array Bool) (a : Act), headB md ops H listed = true → Region.ready md ops (marks H listed) = [] →
    wpQuiet P ops C Lq (pick ops.toList H) a → wpAnyQ P md ops C Lq H.length listed a
  | [], listed, a, _, hm, h => ⟨hm, h⟩
  | i :: H, listed, a, hB, hm, h => by
    simp only [headB, Bool.and_eq_true] at hB
    obtain ⟨⟨hr, hf⟩, hB'⟩ := hB
    have hr' : i ∈ Region.ready md ops listed := by simpa using hr
    obtain ⟨_, oi, hoi, _⟩ := mem_ready.1 hr'
    have hp : pick ops.toList (i :: H) = oi :: pick ops.toList H := by
      simp [pick, hoi]
    rw [hp] at h
    have hst : qOp P ops C i (wpQuiet P ops C Lq (pick ops.toList H)) a := by unfold qOp; simp only [hoi]; exact h
    obtain ⟨v, hy, hK⟩ := yieldsIn_of_qOp hoi hst
    exact wpAnyQ_first hoi (Region.noSelect_spec hsel) H.length listed a (Region.free_spec hoi hf) hr' hy (wpAnyQ_list hsel H _ _ hB' hm hK)
end

section
variable {P : Program} {l : List Oper} {md : Region.Mode}

/-- Where the walk is to stand still: behind an operation of its own, ahead of the plan's next piece. -/
def Halt (p : Prop) (_ _ _ _ _ _ : Unit) : Prop := p
theorem Halt.mk {p : Prop} {a b c d e f : Unit} (h : p) : Halt p a b c d e f := h

/-- What the walk owes: quiet operations in every later world; an operation of its own by the walk's own rules. -/
def wpPlan (P : Program) (l : List Oper) (Q : Exit → Act → World → Prop) : List (List Nat × Nat) → List Nat → Act → World → Prop
  | [], [], a, w => Q .normal a w
  | [], i :: Hf, a, w => wpQuiet P l.toArray (fun w' => ∃ n, w' = w.drewN n) (fun a' => ∀ w', (∃ n, w' = w.drewN n) → Q .normal a' w') (pick l (i :: Hf)) a
  | ([], b) :: rest, Hf, a, w => wpList P l.toArray (Exit.then (fun a w => Halt (wpPlan P l Q rest Hf a w) () () () () () ()) Q) (pick l [b]) a w
  | (i :: H, b) :: rest, Hf, a, w => wpQuiet P l.toArray (fun w' => ∃ n, w' = w.drewN n)
      (fun a' => ∀ w', (∃ n, w' = w.drewN n) → wpList P l.toArray (Exit.then (fun a w => Halt (wpPlan P l Q rest Hf a w) () () () () () ()) Q) (pick l [b]) a' w') (pick l (i :: H)) a

/-- The same in the calculus of rounds: the operations of their own by 'wpIn'. -/
def wpPlanIn (n : Nat) (P : Program) (l : List Oper) (Q : Exit → Act → World → Prop) : List (List Nat × Nat) → List Nat → Act → World → Prop
  | [], [], a, w => Q .normal a w
  | [], i :: Hf, a, w => wpQuiet P l.toArray (fun w' => ∃ n, w' = w.drewN n) (fun a' => ∀ w', (∃ n, w' = w.drewN n) → Q .normal a' w') (pick l (i :: Hf)) a
  | ([], b) :: rest, Hf, a, w => wpListIn Fence.wide n P l.toArray (Exit.then (fun a w => Halt (wpPlanIn n P l Q rest Hf a w) () () () () () ()) Q) (pick l [b]) a w
  | (i :: H, b) :: rest, Hf, a, w => wpQuiet P l.toArray (fun w' => ∃ n, w' = w.drewN n)
      (fun a' => ∀ w', (∃ n, w' = w.drewN n) → wpListIn Fence.wide n P l.toArray (Exit.then (fun a w => Halt (wpPlanIn n P l Q rest Hf a w) () () () () () ()) Q) (pick l [b]) a' w') (pick l (i :: H)) a

theorem wpList_pick {ops : Array Oper} {b : Nat} {o : Oper} {Q : Exit → Act → World → Prop} {K : Act → World → Prop} {a : Act} {w : World} (ho : ops[b]? = some o)
    (h : wpList P ops (Exit.then K Q) [o] a w) : wpOp P ops Q b K a w := by
  unfold wpOp
  simp only [ho]
  unfold wpList at h
  split
  · rename_i hw
    rw [if_pos hw] at h
    rcases h with h | ⟨h1, a0, w0, h2⟩
    · left
      unfold Oper.wp at *
      generalize (execOp a.eval o).run P w = r at *
      cases r with
      | ok x w' =>
        cases x <;> simp only [Oper.upon] at h ⊢ <;>
          first
            | exact h
            | exact Calls.mono h (fun e w'' he => by cases e <;> first | exact he | (obtain ⟨a0, w0, h2⟩ := he; exact ⟨a0, w0, h2⟩))
            | exact Rows.mono h (fun _ _ he => he)
      | halt x w' => cases x <;> simp only [Oper.upon] at h ⊢ <;> exact h
    · exact .inr ⟨h1, a0, w0, h2⟩
  · rename_i hw
    rw [if_neg hw] at h
    exact h

theorem wpListIn_pick {n : Nat} {ops : Array Oper} {b : Nat} {o : Oper} {Q : Exit → Act → World → Prop} {K : Act → World → Prop} {a : Act} {w : World} (ho : ops[b]? = some o)
    (h : wpListIn Fence.wide n P ops (Exit.then K Q) [o] a w) : wpOpIn Fence.wide n P ops Q b K a w := by
  unfold wpOpIn
  simp only [ho]
  unfold wpListIn at h
  split
  · rename_i hw
    rw [if_pos hw] at h
    unfold Oper.wpIn at *
    refine ⟨h.1, ?_⟩
    have h := h.2
    generalize (o.semAt Fence.wide.round a.eval).run P w = r at *
    cases r with
    | ok x w' =>
      cases x <;> simp only [Oper.uponIn] at h ⊢ <;>
        first
          | exact h
          | exact ⟨h.1, CallsIn.mono h.2 (fun e w'' he => by cases e <;> first | exact he | (obtain ⟨a0, w0, h2⟩ := he; exact ⟨a0, w0, h2⟩))⟩
          | exact ⟨h.1, RowsIn.mono h.2 (fun _ _ he => he)⟩
          | exact ⟨h.1, RoundIn.mono h.2 (fun e w'' he => by cases e <;> first | exact he | (obtain ⟨a0, w0, h2⟩ := he; exact ⟨a0, w0, h2⟩))⟩
    | halt x w' => cases x <;> simp only [Oper.uponIn] at h ⊢ <;> exact h
  · rename_i hw
    rw [if_neg hw] at h
    exact h

theorem pick_one {b : Nat} {o : Oper} (h : l[b]? = some o) : pick l [b] = [o] := by simp [pick, h]

theorem not_mem_of_ready {ops : Array Oper} {H : List Nat} {b : Nat} {listed : Array Bool} (hr : Region.ready md ops listed = [b]) (hb : b ∉ H) : ∀ j ∈ Region.ready md ops listed, j ∉ H := by
  intro j hj hH
  rw [hr] at hj
  have : j = b := by simpa using hj
  subst this
  exact hb hH

/-- A piece of a plan: the quiet ones, then the one that they and all others lead to. -/
theorem head_then {C : World → Prop} {ops : Array Oper} {H : List Nat} {b : Nat} {listed : Array Bool} {a : Act} {Lq : Act → Prop} (hsel : Region.noSelect ops = true)
    (hcl : Closed md ops listed) (hB : headB md ops H listed = true) (hr : Region.ready md ops (marks H listed) = [b]) (hbH : b ∉ H)
    (hc : sinkChain md ops b H = true) (hs : sinkRest md ops (fun t => !listed.getD t true && !H.contains t) b = true)
    (h : wpQuiet P ops C Lq (pick ops.toList H) a) :
    wpAnyH P md ops C H (fun listed' a' => listed' = marks H listed ∧ Lq a') H.length listed a :=
  wpAnyH_list (R := fun t => !listed.getD t true && !H.contains t) (M := fun l' => l' = marks H listed) hsel hc hs
    (fun j hj => by simp [hj]) (fun l' hl' => by subst hl'; exact not_mem_of_ready hr hbH) H listed a (fun _ h => h) (start_inv hcl) hB rfl h

theorem closed_head {ops : Array Oper} {H : List Nat} {listed : Array Bool} (hcl : Closed md ops listed) (hB : headB md ops H listed = true) : Closed md ops (marks H listed) :=
  (headB_inv (H0 := H) (R := fun t => !listed.getD t true && !H.contains t) H listed (fun j hj => by simp [hj]) (start_inv hcl) hB).closed

theorem wpAny_plan {Q : Exit → Act → World → Prop} (hsel : Region.noSelect l.toArray = true) : ∀ (plan : List (List Nat × Nat)) (Hf : List Nat) (listed : Array Bool) (a : Act) (w : World),
    Closed md l.toArray listed → planB md l.toArray plan Hf listed = true → wpPlan P l Q plan Hf a w → wpAny P md l.toArray Q (planFuel plan Hf) listed a w
  | [], [], listed, a, w, _, hB, h => by
    simp only [planB, headB, marks, Bool.true_and, List.isEmpty_iff] at hB
    exact ⟨hB, h⟩
  | [], i :: Hf, listed, a, w, _, hB, h => by
    simp only [planB, Bool.and_eq_true, List.isEmpty_iff] at hB
    exact wpAny_of_quiet (Q := fun a' => ∀ w', (∃ n, w' = w.drewN n) → Q .normal a' w') (fun _ w' hw' h => h w' hw') _ _ _ _ ⟨0, rfl⟩
      (wpAnyQ_list (C := fun w' => ∃ n, w' = w.drewN n) hsel (i :: Hf) listed a hB.1 hB.2 h)
  | (H, b) :: rest, Hf, listed, a, w, hcl, hB, h => by
    simp only [planB, Bool.and_eq_true, decide_eq_true_eq, Bool.not_eq_true'] at hB
    obtain ⟨⟨⟨⟨⟨hB1, hr⟩, hbH⟩, hc⟩, hs⟩, hB2⟩ := hB
    have hbH' : b ∉ H := by simpa using hbH
    have hbr : b ∈ Region.ready md l.toArray (marks H listed) := by rw [hr]; simp
    obtain ⟨_, ob, hob, _⟩ := mem_ready.1 hbr
    have hob' : l[b]? = some ob := by simpa using hob
    have step : ∀ (a' : Act) (w' : World), wpList P l.toArray (Exit.then (fun a w => Halt (wpPlan P l Q rest Hf a w) () () () () () ()) Q) (pick l [b]) a' w' → wpAny P md l.toArray Q (1 + planFuel rest Hf) (marks H listed) a' w' := by
      intro a' w' h'
      rw [pick_one hob'] at h'
      rw [Nat.add_comm]
      refine ⟨fun h0 => (by rw [hr] at h0; cases h0), fun i hi => ?_⟩
      rw [hr] at hi
      have : i = b := by simpa using hi
      subst this
      exact wpOp_mono (fun a'' w'' h'' => wpAny_plan hsel rest Hf _ a'' w'' (closed_set (closed_head hcl hB1) hbr) hB2 h'') (wpList_pick hob h')
    cases H with
    | nil =>
      rw [planFuel, List.length_nil, Nat.zero_add]
      exact step a w h
    | cons i H =>
      refine wpAny_of_headH (C := fun w' => ∃ n, w' = w.drewN n) (H := i :: H) (L := fun listed' a' => listed' = marks (i :: H) listed ∧ ∀ w', (∃ n, w' = w.drewN n) → wpList P l.toArray (Exit.then (fun a w => Halt (wpPlan P l Q rest Hf a w) () () () () () ()) Q) (pick l [b]) a' w')
        (fun listed' a' w' hw' hL => by obtain ⟨rfl, hL⟩ := hL; exact step a' w' (hL w' hw')) _ _ _ _ ⟨0, rfl⟩ ?_
      exact head_then hsel hcl hB1 hr hbH' hc hs h

theorem wpAnyIn_plan {m : Nat} {Q : Exit → Act → World → Prop} (hsel : Region.noSelect l.toArray = true) : ∀ (plan : List (List Nat × Nat)) (Hf : List Nat) (listed : Array Bool) (a : Act) (w : World),
    Closed md l.toArray listed → planB md l.toArray plan Hf listed = true → wpPlanIn m P l Q plan Hf a w → wpAnyIn Fence.wide m P md l.toArray Q (planFuel plan Hf) listed a w
  | [], [], listed, a, w, _, hB, h => by
    simp only [planB, headB, marks, Bool.true_and, List.isEmpty_iff] at hB
    exact ⟨hB, h⟩
  | [], i :: Hf, listed, a, w, hcl, hB, h => by
    simp only [planB, Bool.and_eq_true, List.isEmpty_iff] at hB
    have := wpAnyQ_list (C := fun w' => ∃ n, w' = w.drewN n) hsel (i :: Hf) listed a hB.1 hB.2 h
    exact wpAnyIn_of_quiet (Q := fun a' => ∀ w', (∃ n, w' = w.drewN n) → Q .normal a' w') (fun _ w' hw' h => h w' hw') _ _ _ _ ⟨0, rfl⟩ this
  | (H, b) :: rest, Hf, listed, a, w, hcl, hB, h => by
    simp only [planB, Bool.and_eq_true, decide_eq_true_eq, Bool.not_eq_true'] at hB
    obtain ⟨⟨⟨⟨⟨hB1, hr⟩, hbH⟩, hc⟩, hs⟩, hB2⟩ := hB
    have hbH' : b ∉ H := by simpa using hbH
    have hbr : b ∈ Region.ready md l.toArray (marks H listed) := by rw [hr]; simp
    obtain ⟨_, ob, hob, _⟩ := mem_ready.1 hbr
    have hob' : l[b]? = some ob := by simpa using hob
    have step : ∀ (a' : Act) (w' : World), wpListIn Fence.wide m P l.toArray (Exit.then (fun a w => Halt (wpPlanIn m P l Q rest Hf a w) () () () () () ()) Q) (pick l [b]) a' w' → wpAnyIn Fence.wide m P md l.toArray Q (1 + planFuel rest Hf) (marks H listed) a' w' := by
      intro a' w' h'
      rw [pick_one hob'] at h'
      rw [Nat.add_comm]
      refine ⟨fun h0 => (by rw [hr] at h0; cases h0), fun i hi => ?_⟩
      rw [hr] at hi
      have : i = b := by simpa using hi
      subst this
      exact wpOpIn_mono (fun a'' w'' h'' => wpAnyIn_plan hsel rest Hf _ a'' w'' (closed_set (closed_head hcl hB1) hbr) hB2 h'') (wpListIn_pick hob h')
    cases H with
    | nil =>
      rw [planFuel, List.length_nil, Nat.zero_add]
      exact step a w h
    | cons i H =>
      refine wpAnyIn_of_headH (C := fun w' => ∃ n, w' = w.drewN n) (H := i :: H) (L := fun listed' a' => listed' = marks (i :: H) listed ∧ ∀ w', (∃ n, w' = w.drewN n) → wpListIn Fence.wide m P l.toArray (Exit.then (fun a w => Halt (wpPlanIn m P l Q rest Hf a w) () () () () () ()) Q) (pick l [b]) a' w')
        (fun listed' a' w' hw' hL => by obtain ⟨rfl, hL⟩ := hL; exact step a' w' (hL w' hw')) _ _ _ _ ⟨0, rfl⟩ ?_
      exact head_then hsel hcl hB1 hr hbH' hc hs h

/-- A region that draws its order, by a plan: what is asked speaks of the world ahead of it, and of that world after some draws. -/
theorem wp_plan {id : Nat} {Q : Exit → Act → World → Prop} {a : Act} {w : World} (i : Nat) (H : List Nat) (b : Nat) (rest : List (List Nat × Nat)) (Hf : List Nat) (hm : P.follows .mixedOrders = true)
    (hB : planOk l.toArray ((i :: H, b) :: rest) Hf = true) (h : wpPlan P l Q ((i :: H, b) :: rest) Hf a w) : (Code.region id l.toArray true).wp P Q a w := by
  simp only [planOk, planB, Bool.and_eq_true, decide_eq_true_eq, Bool.not_eq_true'] at hB
  obtain ⟨⟨hsel, hfuel⟩, ⟨⟨⟨⟨hB1, hr⟩, hbH⟩, hc⟩, hs⟩, hB2⟩ := hB
  have hbH' : b ∉ i :: H := by simpa using hbH
  have hbr : b ∈ Region.ready .any l.toArray (marks (i :: H) (Array.replicate l.toArray.size false)) := by rw [hr]; simp
  obtain ⟨_, ob, hob, _⟩ := mem_ready.1 hbr
  have hob' : l[b]? = some ob := by simpa using hob
  refine wp_region_any hm ?_
  have h2 := wpAny_of_headH (P := P) (C := fun w' => ∃ n, w' = w.drewN n) (g := 1 + planFuel rest Hf) (Q' := Q) (H := i :: H)
    (L := fun listed' a' => listed' = marks (i :: H) (Array.replicate l.toArray.size false) ∧ ∀ w', (∃ n, w' = w.drewN n) → wpList P l.toArray (Exit.then (fun a w => Halt (wpPlan P l Q rest Hf a w) () () () () () ()) Q) (pick l [b]) a' w')
    (fun listed' a' w' hw' hL => by
      obtain ⟨rfl, hL⟩ := hL
      have h' := hL w' hw'
      rw [pick_one hob'] at h'
      rw [Nat.add_comm]
      refine ⟨fun h0 => (by rw [hr] at h0; cases h0), fun j hj => ?_⟩
      rw [hr] at hj
      have : j = b := by simpa using hj
      subst this
      exact wpOp_mono (fun a'' w'' h'' => wpAny_plan hsel rest Hf _ a'' w'' (closed_set (closed_head closed_start hB1) hbr) hB2 h'') (wpList_pick hob h'))
    (i :: H).length (Array.replicate l.toArray.size false) a w.drew ⟨1, rfl⟩ (head_then hsel closed_start hB1 hr hbH' hc hs h)
  rw [show (i :: H).length + (1 + planFuel rest Hf) = l.toArray.size from hfuel] at h2
  exact h2

theorem wpIn_plan {m id : Nat} {Q : Exit → Act → World → Prop} {a : Act} {w : World} (i : Nat) (H : List Nat) (b : Nat) (rest : List (List Nat × Nat)) (Hf : List Nat) (hm : P.follows .mixedOrders = true)
    (hB : planOk l.toArray ((i :: H, b) :: rest) Hf = true) (h : wpPlanIn m P l Q ((i :: H, b) :: rest) Hf a w) : (Code.region id l.toArray true).wpIn Fence.wide m P Q a w := by
  simp only [planOk, planB, Bool.and_eq_true, decide_eq_true_eq, Bool.not_eq_true'] at hB
  obtain ⟨⟨hsel, hfuel⟩, ⟨⟨⟨⟨hB1, hr⟩, hbH⟩, hc⟩, hs⟩, hB2⟩ := hB
  have hbH' : b ∉ i :: H := by simpa using hbH
  have hbr : b ∈ Region.ready .any l.toArray (marks (i :: H) (Array.replicate l.toArray.size false)) := by rw [hr]; simp
  obtain ⟨_, ob, hob, _⟩ := mem_ready.1 hbr
  have hob' : l[b]? = some ob := by simpa using hob
  refine wpIn_region_any hm ?_
  have h2 := wpAnyIn_of_headH (n := m) (P := P) (C := fun w' => ∃ n, w' = w.drewN n) (g := 1 + planFuel rest Hf) (Q' := Q) (H := i :: H)
    (L := fun listed' a' => listed' = marks (i :: H) (Array.replicate l.toArray.size false) ∧ ∀ w', (∃ n, w' = w.drewN n) → wpListIn Fence.wide m P l.toArray (Exit.then (fun a w => Halt (wpPlanIn m P l Q rest Hf a w) () () () () () ()) Q) (pick l [b]) a' w')
    (fun listed' a' w' hw' hL => by
      obtain ⟨rfl, hL⟩ := hL
      have h' := hL w' hw'
      rw [pick_one hob'] at h'
      rw [Nat.add_comm]
      refine ⟨fun h0 => (by rw [hr] at h0; cases h0), fun j hj => ?_⟩
      rw [hr] at hj
      have : j = b := by simpa using hj
      subst this
      exact wpOpIn_mono (fun a'' w'' h'' => wpAnyIn_plan hsel rest Hf _ a'' w'' (closed_set (closed_head closed_start hB1) hbr) hB2 h'') (wpListIn_pick hob h'))
    (i :: H).length (Array.replicate l.toArray.size false) a w.drew ⟨1, rfl⟩ (head_then hsel closed_start hB1 hr hbH' hc hs h)
  rw [show (i :: H).length + (1 + planFuel rest Hf) = l.toArray.size from hfuel] at h2
  exact h2
end
end Go.Proofs.YtdfkdbdhaaiadaaDoor
