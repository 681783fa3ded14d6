/- Merged: Regions that draw their order, walked by a plan: quiet operations in any listed order, then one operation that all others wait for or stand behind, and so on; What a call keeps of memory, block by block; cells read off whole blocks; Slices of bytes as lists of bytes: conversions to and from strings, what a walk asks of them; 'append' of a slice whose cells are known, to a row that is owned; Slices in memory: rows of one-cell elements, bytes, texts, rows of texts; Rows that the call owns, one cell an element, with a mark behind what is written (what a conversion of a string leaves) or a frozen head: 'append' to them; Plans with operations that float past a barrier: they yield one value in every world of a class that the barrier keeps. -/
import Derived.Deep.QuietTactic
import Derived.StillTail
import Derived.OrdersIn
import Derived.WalkKit
import Derived.Deep.Draws
import Derived.Laws.CopyOwn
import Derived.Laws.BytesArg
import Derived.Laws.IdiomStrings
import Derived.Lib.ConvBytes
import Derived.Laws.AppendOwn
import Derived.Laws.AppendOwnNone
import Derived.OwnWalk
import Derived.Lib.Hide
import Derived.IntWalk
import Derived.Lib.FrozenHead2
set_option linter.all false
namespace Go.Proofs.YtpekeilpdbdnnaaDoor
section
variable {P : Program} {ops : Array Oper} {md : Region.Mode} {C : World → Prop}

/-- Whatever order is picked while the quiet operations of H come up. -/
def wpAnyH (P : Program) (md : Region.Mode) (ops : Array Oper) (C : World → Prop) (H : List Nat) (L : Array Bool → Act → Prop) : Nat → Array Bool → Act → Prop
  | 0, listed, a => L listed a
  | f + 1, listed, a =>
    Region.ready md ops listed ≠ [] ∧ ∀ i ∈ Region.ready md ops listed, i ∈ H ∧ qOp P ops C i (wpAnyH P md ops C H L f (listed.setIfInBounds i true)) a

structure HInv (md : Region.Mode) (ops : Array Oper) (H : List Nat) (R : Nat → Bool) (listed : Array Bool) : Prop where
  cover : ∀ t, t < ops.size → listed.getD t true = false → t ∈ H ∨ R t = true
  closed : ∀ j oj, ops[j]? = some oj → listed.getD j false = true → ∀ e ∈ oj.after, Region.binds md e = true → listed.getD e.on false = true
  rest : ∀ t, t < ops.size → R t = true → listed.getD t true = false

theorem HInv.set {H : List Nat} {R : Nat → Bool} {i : Nat} {listed : Array Bool} (inv : HInv md ops H R listed) (hi : i ∈ Region.ready md ops listed) (hR : R i = false) : HInv md ops H R (listed.setIfInBounds i true) := by
  obtain ⟨_, oi, hoi, hall⟩ := mem_ready.1 hi
  refine ⟨fun t ht hl => ?_, fun j oj hj hl e he hb => ?_, fun t ht hRt => ?_⟩
  · by_cases hit : i = t
    · subst hit
      exact inv.cover i ht (mem_ready.1 hi).1
    · rw [getD_set_ne true hit] at hl
      exact inv.cover t ht hl
  · by_cases hij : i = j
    · subst hij
      have : oj = oi := Option.some.inj (hj.symm.trans hoi)
      subst this
      exact getD_set_true (hall e he hb)
    · rw [getD_set_ne false hij] at hl
      exact getD_set_true (inv.closed j oj hj hl e he hb)
  · have hne : i ≠ t := fun e => by subst e; rw [hR] at hRt; cases hRt
    rw [getD_set_ne true hne]; exact inv.rest t ht hRt

theorem HInv.ready {H : List Nat} {R : Nat → Bool} {j : Nat} {listed : Array Bool} (inv : HInv md ops H R listed) (hj : j ∈ Region.ready md ops listed) : j ∈ H ∨ R j = true := by
  obtain ⟨h0, o, ho, _⟩ := mem_ready.1 hj
  exact inv.cover j (Array.getElem?_eq_some_iff.1 ho).1 h0

def sinkChain (md : Region.Mode) (ops : Array Oper) (b : Nat) : List Nat → Bool
  | [] => true
  | i :: H => (Region.waitsFor md ops b i || H.any fun j => Region.waitsFor md ops j i) && sinkChain md ops b H

def sinkRest (md : Region.Mode) (ops : Array Oper) (R : Nat → Bool) (b : Nat) : Bool :=
  (List.range ops.size).all fun t => !R t || t == b || (List.range ops.size).any fun j => R j && Region.waitsFor md ops t j

theorem chain_waits {H0 : List Nat} {R : Nat → Bool} {b : Nat} {listed : Array Bool} (inv : HInv md ops H0 R listed) : ∀ (H : List Nat), sinkChain md ops b H = true →
    (∃ i ∈ H, listed.getD i false = false) → b ∉ Region.ready md ops listed
  | [], _, h => by obtain ⟨i, hi, _⟩ := h; cases hi
  | i :: H, hc, h => by
    simp only [sinkChain, Bool.and_eq_true, Bool.or_eq_true] at hc
    by_cases hH : ∃ j ∈ H, listed.getD j false = false
    · exact chain_waits inv H hc.2 hH
    · obtain ⟨k, hk, hun⟩ := h
      have hki : k = i := by
        rcases List.mem_cons.1 hk with h1 | h1
        · exact h1
        · exact absurd ⟨k, h1, hun⟩ hH
      subst hki
      intro hr
      obtain ⟨_, ob, hob, hall⟩ := mem_ready.1 hr
      rcases hc.1 with h1 | h1
      · obtain ⟨o', ho', e, he, hb, hon⟩ := Region.waitsFor_spec h1
        have : o' = ob := Option.some.inj (ho'.symm.trans hob)
        subst this
        have h2 := hall e he hb
        rw [hon, hun] at h2
        cases h2
      · obtain ⟨j, hj, h2⟩ := List.any_eq_true.1 h1
        obtain ⟨oj, hoj, e, he, hb, hon⟩ := Region.waitsFor_spec h2
        have hlj : listed.getD j false = true := by
          cases hl : listed.getD j false with
          | true => rfl
          | false => exact absurd ⟨j, hj, hl⟩ hH
        have h3 := inv.closed j oj hoj hlj e he hb
        rw [hon, hun] at h3
        cases h3

theorem rest_waits {R : Nat → Bool} {H : List Nat} {b : Nat} {listed : Array Bool} (inv : HInv md ops H R listed) (hc : sinkChain md ops b H = true) (hs : sinkRest md ops R b = true)
    (h : ∃ i ∈ H, listed.getD i false = false) {t : Nat} (hR : R t = true) : t ∉ Region.ready md ops listed := by
  intro hr
  obtain ⟨_, ot, hot, hall⟩ := mem_ready.1 hr
  have htlt : t < ops.size := (Array.getElem?_eq_some_iff.1 hot).1
  have h1 := List.all_eq_true.1 hs t (List.mem_range.2 htlt)
  simp only [hR, Bool.not_true, Bool.false_or, Bool.or_eq_true, beq_iff_eq] at h1
  rcases h1 with h1 | h1
  · subst h1; exact chain_waits inv H hc h hr
  · obtain ⟨j, hj, h2⟩ := List.any_eq_true.1 h1
    simp only [Bool.and_eq_true] at h2
    obtain ⟨o', ho', e, he, hb, hon⟩ := Region.waitsFor_spec h2.2
    have : o' = ot := Option.some.inj (ho'.symm.trans hot)
    subst this
    have h3 := hall e he hb
    rw [hon, getD_both (inv.rest j (List.mem_range.1 hj) h2.1)] at h3
    cases h3

theorem wpAnyH_first {R : Nat → Bool} {H : List Nat} {b i : Nat} {oi : Oper} {v : Value} {L : Array Bool → Act → Prop} (hi : ops[i]? = some oi)
    (hsel : ∀ (j : Nat) (o : Oper) cs b, ops[j]? = some o → o.op ≠ .select cs b)
    (hc : sinkChain md ops b H = true) (hs : sinkRest md ops R b = true)
    (hin : i ∈ H) (hHR : ∀ j ∈ H, R j = false)
    (hdone : ∀ listed a, L listed a → ∀ j ∈ Region.ready md ops listed, j ∉ H) :
    ∀ (f : Nat) (listed : Array Bool) (a : Act), HInv md ops H R listed →
      (∀ j oj, ops[j]? = some oj → j ≠ i → listed.getD j true = false → (∀ e ∈ oj.after, Region.binds md e = true → e.on ≠ i) → oi.apart ops oj = true) →
      i ∈ Region.ready md ops listed → YieldsIn P ops C oi v a →
      wpAnyH P md ops C H L f (listed.setIfInBounds i true) (a.put oi.dst v) → wpAnyH P md ops C H L (f + 1) listed a := by
  intro f
  induction f with
  | zero =>
    intro listed a inv _ hr hy HH
    have hun := (mem_ready.1 hr).1
    refine ⟨fun h => (by rw [h] at hr; cases hr), fun j hj => ?_⟩
    have hjn : j ∈ H := by
      rcases inv.ready hj with h | h
      · exact h
      · exact absurd hj (rest_waits inv hc hs ⟨i, hin, getD_both hun⟩ h)
    refine ⟨hjn, ?_⟩
    by_cases hji : j = i
    · subst hji; exact hy.qOp hi HH
    · exact absurd hjn (hdone _ _ HH j (ready_mono hj hji))
  | succ f ih =>
    intro listed a inv hfree hr hy HH
    have hun := (mem_ready.1 hr).1
    refine ⟨fun h => (by rw [h] at hr; cases hr), fun j hj => ?_⟩
    have hjn : j ∈ H := by
      rcases inv.ready hj with h | h
      · exact h
      · exact absurd hj (rest_waits inv hc hs ⟨i, hin, getD_both hun⟩ h)
    refine ⟨hjn, ?_⟩
    by_cases hji : j = i
    · subst hji; exact hy.qOp hi HH
    · have h1 := (HH.2 j (ready_mono hj hji)).2
      obtain ⟨hjun, oj, hoj, hall⟩ := mem_ready.1 hj
      have hnot : ∀ e ∈ oj.after, Region.binds md e = true → e.on ≠ i := fun e he hb heq => by
        have h1 := hall e he hb
        rw [heq, getD_both hun] at h1
        cases h1
      have h2 := qOp_put hoj (hfree j oj hoj hji hjun hnot) (fun cs b => hsel i oi cs b hi) (fun cs b => hsel j oj cs b hoj) hy h1
      have hfree' : ∀ k ok, ops[k]? = some ok → k ≠ i → (listed.setIfInBounds j true).getD k true = false →
          (∀ e ∈ ok.after, Region.binds md e = true → e.on ≠ i) → oi.apart ops ok = true := fun k ok hk hki hun hno => by
        refine hfree k ok hk hki ?_ hno
        by_cases hjk : j = k
        · subst hjk; exact hjun
        · rw [getD_set_ne true hjk] at hun; exact hun
      refine qOp_mono (fun a' h3 => ih (listed.setIfInBounds j true) a' (inv.set hj (hHR j hjn)) hfree' (ready_mono hr (Ne.symm hji)) h3.1 ?_) h2
      rw [Array.setIfInBounds_comm _ _ hji]
      exact h3.2

/-- The quiet operations, one by one, in the plan's order. -/
def headB (md : Region.Mode) (ops : Array Oper) : List Nat → Array Bool → Bool
  | [], _ => true
  | i :: H, listed => (Region.ready md ops listed).contains i && Region.free md ops listed i && headB md ops H (listed.setIfInBounds i true)

def marks : List Nat → Array Bool → Array Bool
  | [], listed => listed
  | i :: H, listed => marks H (listed.setIfInBounds i true)

def pick (l : List Oper) (H : List Nat) : List Oper := H.filterMap fun i => l[i]?

theorem wpAnyH_list {R : Nat → Bool} {H : List Nat} {b : Nat} {Lq : Act → Prop} {M : Array Bool → Prop} (hsel : Region.noSelect ops = true)
    (hc : sinkChain md ops b H = true) (hs : sinkRest md ops R b = true) (hHR : ∀ j ∈ H, R j = false)
    (hM : ∀ listed, M listed → ∀ j ∈ Region.ready md ops listed, j ∉ H) :
    ∀ (H' : List Nat) (listed : Array Bool) (a : Act), (∀ j ∈ H', j ∈ H) → HInv md ops H R listed → headB md ops H' listed = true → M (marks H' listed) →
      wpQuiet P ops C Lq (pick ops.toList H') a → wpAnyH P md ops C H (fun listed' a' => M listed' ∧ Lq a') H'.length listed a
  | [], listed, a, _, inv, _, hm, h => ⟨hm, h⟩
  | i :: H', listed, a, hH', inv, hB, hm, h => by
    simp only [headB, Bool.and_eq_true] at hB
    obtain ⟨⟨hr, hf⟩, hB'⟩ := hB
    have hr' : i ∈ Region.ready md ops listed := by simpa using hr
    obtain ⟨_, oi, hoi, _⟩ := mem_ready.1 hr'
    have hp : pick ops.toList (i :: H') = oi :: pick ops.toList H' := by
      simp [pick, hoi]
    rw [hp] at h
    have hst : qOp P ops C i (wpQuiet P ops C Lq (pick ops.toList H')) a := by unfold qOp; simp only [hoi]; exact h
    obtain ⟨v, hy, hK⟩ := yieldsIn_of_qOp hoi hst
    exact wpAnyH_first (R := R) hoi (Region.noSelect_spec hsel) hc hs (hH' i (by simp)) hHR (fun listed' a' hL => hM _ hL.1)
      H'.length listed a inv (Region.free_spec hoi hf) hr' hy
      (wpAnyH_list hsel hc hs hHR hM H' _ _ (fun j hj => hH' j (List.mem_cons_of_mem _ hj)) (inv.set hr' (hHR i (hH' i (by simp)))) hB' hm hK)

theorem wpAny_of_headH {H : List Nat} {g : Nat} {L : Array Bool → Act → Prop} {Q' : Exit → Act → World → Prop} (hL : ∀ listed a w, C w → L listed a → wpAny P md ops Q' g listed a w) :
    ∀ (f : Nat) (listed : Array Bool) (a : Act) (w : World), C w → wpAnyH P md ops C H L f listed a → wpAny P md ops Q' (f + g) listed a w
  | 0, listed, a, w, hw, h => by rw [Nat.zero_add]; exact hL _ _ _ hw h
  | f + 1, listed, a, w, hw, h => by
    rw [show f + 1 + g = (f + g) + 1 by omega]
    exact ⟨fun h0 => absurd h0 h.1, fun i hi => wpOp_of_qOp hw (fun a' w' hw' h' => wpAny_of_headH hL f _ a' w' hw' h') (h.2 i hi).2⟩

theorem wpAnyIn_of_headH {n : Nat} {H : List Nat} {g : Nat} {L : Array Bool → Act → Prop} {Q' : Exit → Act → World → Prop} (hL : ∀ listed a w, C w → L listed a → wpAnyIn Fence.wide n P md ops Q' g listed a w) :
    ∀ (f : Nat) (listed : Array Bool) (a : Act) (w : World), C w → wpAnyH P md ops C H L f listed a → wpAnyIn Fence.wide n P md ops Q' (f + g) listed a w
  | 0, listed, a, w, hw, h => by rw [Nat.zero_add]; exact hL _ _ _ hw h
  | f + 1, listed, a, w, hw, h => by
    rw [show f + 1 + g = (f + g) + 1 by omega]
    refine ⟨fun h0 => absurd h0 h.1, fun i hi => ?_⟩
    have hq := (h.2 i hi).2
    unfold qOp at hq
    unfold wpOpIn
    split
    · rename_i ho; simp only [ho] at hq; exact wpAnyIn_of_headH hL f _ _ w hw hq
    · rename_i o ho
      simp only [ho] at hq
      split
      · rename_i hwa
        simp only [hwa, if_true] at hq
        obtain ⟨v, h1, h2⟩ := hq
        have h3 := h1 w hw
        unfold Oper.quietAt at h3
        refine ⟨fun _ _ => trivial, ?_⟩
        rw [show Fence.wide.round = none from rfl, Oper.semAt_none]
        generalize (execOp a.eval o).run P w = r at *
        cases r with
        | ok x w' =>
          cases x <;> simp only [Oper.quietUpon] at h3 <;> simp only [Oper.uponIn]
          case value u =>
            obtain ⟨e1, e2⟩ := h3
            rw [e1, e2]
            exact wpAnyIn_of_headH hL f _ _ w hw h2
          case skip =>
            obtain ⟨e1, e2⟩ := h3
            rw [e1, ← e2]
            exact wpAnyIn_of_headH hL f _ _ w hw h2
          case enter fn args =>
            obtain ⟨e1, hcalls⟩ := h3
            rw [e1]
            refine ⟨fun h => by simp [Fence.wide] at h, callsIn_wide.2 (hcalls.mono fun e w'' ⟨he, hw''⟩ => ?_)⟩
            subst he
            exact wpAnyIn_of_headH hL f _ _ w'' hw'' h2
        | halt x w' => simp only [Oper.quietUpon] at h3
      · rename_i hwa
        simp only [hwa] at hq
        exact ⟨fun _ _ => trivial, wpAnyIn_of_headH hL f _ _ w hw hq⟩

theorem wpAnyIn_of_quiet {n : Nat} {Q : Act → Prop} {Q' : Exit → Act → World → Prop} (hQ : ∀ a w, C w → Q a → Q' .normal a w) : ∀ (f : Nat) (listed : Array Bool) (a : Act) (w : World), C w →
    wpAnyQ P md ops C Q f listed a → wpAnyIn Fence.wide n P md ops Q' f listed a w
  | 0, _, _, _, hw, h => ⟨h.1, hQ _ _ hw h.2⟩
  | f + 1, listed, a, w, hw, h => by
    refine ⟨fun h0 => hQ _ _ hw (h.1 h0), fun i hi => ?_⟩
    have hq := h.2 i hi
    unfold qOp at hq
    unfold wpOpIn
    split
    · rename_i ho; simp only [ho] at hq; exact wpAnyIn_of_quiet hQ f _ _ w hw hq
    · rename_i o ho
      simp only [ho] at hq
      split
      · rename_i hwa
        simp only [hwa, if_true] at hq
        obtain ⟨v, h1, h2⟩ := hq
        have h3 := h1 w hw
        unfold Oper.quietAt at h3
        refine ⟨fun _ _ => trivial, ?_⟩
        rw [show Fence.wide.round = none from rfl, Oper.semAt_none]
        generalize (execOp a.eval o).run P w = r at *
        cases r with
        | ok x w' =>
          cases x <;> simp only [Oper.quietUpon] at h3 <;> simp only [Oper.uponIn]
          case value u =>
            obtain ⟨e1, e2⟩ := h3
            rw [e1, e2]
            exact wpAnyIn_of_quiet hQ f _ _ w hw h2
          case skip =>
            obtain ⟨e1, e2⟩ := h3
            rw [e1, ← e2]
            exact wpAnyIn_of_quiet hQ f _ _ w hw h2
          case enter fn args =>
            obtain ⟨e1, hcalls⟩ := h3
            rw [e1]
            refine ⟨fun h => by simp [Fence.wide] at h, callsIn_wide.2 (hcalls.mono fun e w'' ⟨he, hw''⟩ => ?_)⟩
            subst he
            exact wpAnyIn_of_quiet hQ f _ _ w'' hw'' h2
        | halt x w' => simp only [Oper.quietUpon] at h3
      · rename_i hwa
        simp only [hwa] at hq
        exact ⟨fun _ _ => trivial, wpAnyIn_of_quiet hQ f _ _ w hw hq⟩

/-- The plan's Bool. -/
def planB (md : Region.Mode) (ops : Array Oper) : List (List Nat × Nat) → List Nat → Array Bool → Bool
  | [], Hf, listed => headB md ops Hf listed && (Region.ready md ops (marks Hf listed)).isEmpty
  | (H, b) :: rest, Hf, listed =>
    headB md ops H listed && decide (Region.ready md ops (marks H listed) = [b]) && !H.contains b &&
    sinkChain md ops b H && sinkRest md ops (fun t => !listed.getD t true && !H.contains t) b &&
    planB md ops rest Hf ((marks H listed).setIfInBounds b true)

def planFuel : List (List Nat × Nat) → List Nat → Nat
  | [], Hf => Hf.length
  | (H, _) :: rest, Hf => H.length + (1 + planFuel rest Hf)

def planOk (ops : Array Oper) (plan : List (List Nat × Nat)) (Hf : List Nat) : Bool :=
  Region.noSelect ops && decide (planFuel plan Hf = ops.size) && planB .any ops plan Hf (Array.replicate ops.size false)

theorem headB_inv {H0 : List Nat} {R : Nat → Bool} : ∀ (H : List Nat) (listed : Array Bool), (∀ i ∈ H, R i = false) → HInv md ops H0 R listed → headB md ops H listed = true → HInv md ops H0 R (marks H listed)
  | [], _, _, inv, _ => inv
  | i :: H, listed, hR, inv, hB => by
    simp only [headB, Bool.and_eq_true] at hB
    exact headB_inv H _ (fun j hj => hR j (List.mem_cons_of_mem _ hj)) (inv.set (by simpa using hB.1.1) (hR i (by simp))) hB.2

/-- The state between two pieces of a plan: whoever is listed has those listed that it waits for. -/
def Closed (md : Region.Mode) (ops : Array Oper) (listed : Array Bool) : Prop :=
  ∀ j oj, ops[j]? = some oj → listed.getD j false = true → ∀ e ∈ oj.after, Region.binds md e = true → listed.getD e.on false = true

theorem closed_start : Closed md ops (Array.replicate ops.size false) := fun j oj _ hl => by rw [getD_replicate_false] at hl; cases hl

theorem start_inv {H : List Nat} {listed : Array Bool} (hc : Closed md ops listed) : HInv md ops H (fun t => !listed.getD t true && !H.contains t) listed :=
  ⟨fun t _ hl => by
      by_cases h : t ∈ H
      · exact .inl h
      · right; rw [hl]; simpa using h,
    hc, fun t _ hR => by simp only [Bool.and_eq_true, Bool.not_eq_true'] at hR; exact hR.1⟩

theorem closed_set {b : Nat} {listed : Array Bool} (hc : Closed md ops listed) (hb : b ∈ Region.ready md ops listed) : Closed md ops (listed.setIfInBounds b true) := fun j oj hj hl e he hbd => by
  obtain ⟨_, oi, hoi, hall⟩ := mem_ready.1 hb
  by_cases hij : b = j
  · subst hij
    have : oj = oi := Option.some.inj (hj.symm.trans hoi)
    subst this
    exact getD_set_true (hall e he hbd)
  · rw [getD_set_ne false hij] at hl
    exact getD_set_true (hc j oj hj hl e he hbd)

theorem wpAnyQ_list {Lq : Act → Prop} (hsel : Region.noSelect ops = true) : ∀ (H : List Nat) (listed : Array Bool) (a : Act), headB md ops H listed = true → Region.ready md ops (marks H listed) = [] →
    wpQuiet P ops C Lq (pick ops.toList H) a → wpAnyQ P md ops C Lq H.length listed a
  | [], listed, a, _, hm, h => ⟨hm, h⟩
  | i :: H, listed, a, hB, hm, h => by
    simp only [headB, Bool.and_eq_true] at hB
    obtain ⟨⟨hr, hf⟩, hB'⟩ := hB
    have hr' : i ∈ Region.ready md ops listed := by simpa using hr
    obtain ⟨_, oi, hoi, _⟩ := mem_ready.1 hr'
    have hp : pick ops.toList (i :: H) = oi :: pick ops.toList H := by
      simp [pick, hoi]
    rw [hp] at h
    have hst : qOp P ops C i (wpQuiet P ops C Lq (pick ops.toList H)) a := by unfold qOp; simp only [hoi]; exact h
    obtain ⟨v, hy, hK⟩ := yieldsIn_of_qOp hoi hst
    exact wpAnyQ_first hoi (Region.noSelect_spec hsel) H.length listed a (Region.free_spec hoi hf) hr' hy (wpAnyQ_list hsel H _ _ hB' hm hK)
end

section
variable {P : Program} {l : List Oper} {md : Region.Mode}

/-- Where the walk is to stand still: behind an operation of its own, ahead of the plan's next piece. -/
def Halt (p : Prop) (_ _ _ _ _ _ : Unit) : Prop := p
theorem Halt.mk {p : Prop} {a b c d e f : Unit} (h : p) : Halt p a b c d e f := h

/-- What the walk owes: quiet operations in every later world; an operation of its own by the walk's own rules. -/
def wpPlan (P : Program) (l : List Oper) (Q : Exit → Act → World → Prop) : List (List Nat × Nat) → List Nat → Act → World → Prop
  | [], [], a, w => Q .normal a w
  | [], i :: Hf, a, w => wpQuiet P l.toArray (fun w' => ∃ n, w' = w.drewN n) (fun a' => ∀ w', (∃ n, w' = w.drewN n) → Q .normal a' w') (pick l (i :: Hf)) a
  | ([], b) :: rest, Hf, a, w => wpList P l.toArray (Exit.then (fun a w => Halt (wpPlan P l Q rest Hf a w) () () () () () ()) Q) (pick l [b]) a w
  | (i :: H, b) :: rest, Hf, a, w => wpQuiet P l.toArray (fun w' => ∃ n, w' = w.drewN n)
      (fun a' => ∀ w', (∃ n, w' = w.drewN n) → wpList P l.toArray (Exit.then (fun a w => Halt (wpPlan P l Q rest Hf a w) () () () () () ()) Q) (pick l [b]) a' w') (pick l (i :: H)) a

/-- The same in the calculus of rounds: the operations of their own by 'wpIn'. -/
def wpPlanIn (n : Nat) (P : Program) (l : List Oper) (Q : Exit → Act → World → Prop) : List (List Nat × Nat) → List Nat → Act → World → Prop
  | [], [], a, w => Q .normal a w
  | [], i :: Hf, a, w => wpQuiet P l.toArray (fun w' => ∃ n, w' = w.drewN n) (fun a' => ∀ w', (∃ n, w' = w.drewN n) → Q .normal a' w') (pick l (i :: Hf)) a
  | ([], b) :: rest, Hf, a, w => wpListIn Fence.wide n P l.toArray (Exit.then (fun a w => Halt (wpPlanIn n P l Q rest Hf a w) () () () () () ()) Q) (pick l [b]) a w
  | (i :: H, b) :: rest, Hf, a, w => wpQuiet P l.toArray (fun w' => ∃ n, w' = w.drewN n)
      (fun a' => ∀ w', (∃ n, w' = w.drewN n) → wpListIn Fence.wide n P l.toArray (Exit.then (fun a w => Halt (wpPlanIn n P l Q rest Hf a w) () () () () () ()) Q) (pick l [b]) a' w') (pick l (i :: H)) a

theorem wpList_pick {ops : Array Oper} {b : Nat} {o : Oper} {Q : Exit → Act → World → Prop} {K : Act → World → Prop} {a : Act} {w : World} (ho : ops[b]? = some o)
    (h : wpList P ops (Exit.then K Q) [o] a w) : wpOp P ops Q b K a w := by
  unfold wpOp
  simp only [ho]
  unfold wpList at h
  split
  · rename_i hw
    rw [if_pos hw] at h
    rcases h with h | ⟨h1, a0, w0, h2⟩
    · left
      unfold Oper.wp at *
      generalize (execOp a.eval o).run P w = r at *
      cases r with
      | ok x w' =>
        cases x <;> simp only [Oper.upon] at h ⊢ <;>
          first
            | exact h
            | exact Calls.mono h (fun e w'' he => by cases e <;> first | exact he | (obtain ⟨a0, w0, h2⟩ := he; exact ⟨a0, w0, h2⟩))
            | exact Rows.mono h (fun _ _ he => he)
      | halt x w' => cases x <;> simp only [Oper.upon] at h ⊢ <;> exact h
    · exact .inr ⟨h1, a0, w0, h2⟩
  · rename_i hw
    rw [if_neg hw] at h
    exact h

theorem wpListIn_pick {n : Nat} {ops : Array Oper} {b : Nat} {o : Oper} {Q : Exit → Act → World → Prop} {K : Act → World → Prop} {a : Act} {w : World} (ho : ops[b]? = some o)
    (h : wpListIn Fence.wide n P ops (Exit.then K Q) [o] a w) : wpOpIn Fence.wide n P ops Q b K a w := by
  unfold wpOpIn
  simp only [ho]
  unfold wpListIn at h
  split
  · rename_i hw
    rw [if_pos hw] at h
    unfold Oper.wpIn at *
    refine ⟨h.1, ?_⟩
    have h := h.2
    generalize (o.semAt Fence.wide.round a.eval).run P w = r at *
    cases r with
    | ok x w' =>
      cases x <;> simp only [Oper.uponIn] at h ⊢ <;>
        first
          | exact h
          | exact ⟨h.1, CallsIn.mono h.2 (fun e w'' he => by cases e <;> first | exact he | (obtain ⟨a0, w0, h2⟩ := he; exact ⟨a0, w0, h2⟩))⟩
          | exact ⟨h.1, RowsIn.mono h.2 (fun _ _ he => he)⟩
          | exact ⟨h.1, RoundIn.mono h.2 (fun e w'' he => by cases e <;> first | exact he | (obtain ⟨a0, w0, h2⟩ := he; exact ⟨a0, w0, h2⟩))⟩
    | halt x w' => cases x <;> simp only [Oper.uponIn] at h ⊢ <;> exact h
  · rename_i hw
    rw [if_neg hw] at h
    exact h

theorem pick_one {b : Nat} {o : Oper} (h : l[b]? = some o) : pick l [b] = [o] := by simp [pick, h]

theorem not_mem_of_ready {ops : Array Oper} {H : List Nat} {b : Nat} {listed : Array Bool} (hr : Region.ready md ops listed = [b]) (hb : b ∉ H) : ∀ j ∈ Region.ready md ops listed, j ∉ H := by
  intro j hj hH
  rw [hr] at hj
  have : j = b := by simpa using hj
  subst this
  exact hb hH

/-- A piece of a plan: the quiet ones, then the one that they and all others lead to. -/
theorem head_then {C : World → Prop} {ops : Array Oper} {H : List Nat} {b : Nat} {listed : Array Bool} {a : Act} {Lq : Act → Prop} (hsel : Region.noSelect ops = true)
    (hcl : Closed md ops listed) (hB : headB md ops H listed = true) (hr : Region.ready md ops (marks H listed) = [b]) (hbH : b ∉ H)
    (hc : sinkChain md ops b H = true) (hs : sinkRest md ops (fun t => !listed.getD t true && !H.contains t) b = true)
    (h : wpQuiet P ops C Lq (pick ops.toList H) a) :
    wpAnyH P md ops C H (fun listed' a' => listed' = marks H listed ∧ Lq a') H.length listed a :=
  wpAnyH_list (R := fun t => !listed.getD t true && !H.contains t) (M := fun l' => l' = marks H listed) hsel hc hs
    (fun j hj => by simp [hj]) (fun l' hl' => by subst hl'; exact not_mem_of_ready hr hbH) H listed a (fun _ h => h) (start_inv hcl) hB rfl h

theorem closed_head {ops : Array Oper} {H : List Nat} {listed : Array Bool} (hcl : Closed md ops listed) (hB : headB md ops H listed = true) : Closed md ops (marks H listed) :=
  (headB_inv (H0 := H) (R := fun t => !listed.getD t true && !H.contains t) H listed (fun j hj => by simp [hj]) (start_inv hcl) hB).closed

theorem wpAny_plan {Q : Exit → Act → World → Prop} (hsel : Region.noSelect l.toArray = true) : ∀ (plan : List (List Nat × Nat)) (Hf : List Nat) (listed : Array Bool) (a : Act) (w : World),
    Closed md l.toArray listed → planB md l.toArray plan Hf listed = true → wpPlan P l Q plan Hf a w → wpAny P md l.toArray Q (planFuel plan Hf) listed a w
  | [], [], listed, a, w, _, hB, h => by
    simp only [planB, headB, marks, Bool.true_and, List.isEmpty_iff] at hB
    exact ⟨hB, h⟩
  | [], i :: Hf, listed, a, w, _, hB, h => by
    simp only [planB, Bool.and_eq_true, List.isEmpty_iff] at hB
    exact wpAny_of_quiet (Q := fun a' => ∀ w', (∃ n, w' = w.drewN n) → Q .normal a' w') (fun _ w' hw' h => h w' hw') _ _ _ _ ⟨0, rfl⟩
      (wpAnyQ_list (C := fun w' => ∃ n, w' = w.drewN n) hsel (i :: Hf) listed a hB.1 hB.2 h)
  | (H, b) :: rest, Hf, listed, a, w, hcl, hB, h => by
    simp only [planB, Bool.and_eq_true, decide_eq_true_eq, Bool.not_eq_true'] at hB
    obtain ⟨⟨⟨⟨⟨hB1, hr⟩, hbH⟩, hc⟩, hs⟩, hB2⟩ := hB
    have hbH' : b ∉ H := by simpa using hbH
    have hbr : b ∈ Region.ready md l.toArray (marks H listed) := by rw [hr]; simp
    obtain ⟨_, ob, hob, _⟩ := mem_ready.1 hbr
    have hob' : l[b]? = some ob := by simpa using hob
    have step : ∀ (a' : Act) (w' : World), wpList P l.toArray (Exit.then (fun a w => Halt (wpPlan P l Q rest Hf a w) () () () () () ()) Q) (pick l [b]) a' w' → wpAny P md l.toArray Q (1 + planFuel rest Hf) (marks H listed) a' w' := by
      intro a' w' h'
      rw [pick_one hob'] at h'
      rw [Nat.add_comm]
      refine ⟨fun h0 => (by rw [hr] at h0; cases h0), fun i hi => ?_⟩
      rw [hr] at hi
      have : i = b := by simpa using hi
      subst this
      exact wpOp_mono (fun a'' w'' h'' => wpAny_plan hsel rest Hf _ a'' w'' (closed_set (closed_head hcl hB1) hbr) hB2 h'') (wpList_pick hob h')
    cases H with
    | nil =>
      rw [planFuel, List.length_nil, Nat.zero_add]
      exact step a w h
    | cons i H =>
      refine wpAny_of_headH (C := fun w' => ∃ n, w' = w.drewN n) (H := i :: H) (L := fun listed' a' => listed' = marks (i :: H) listed ∧ ∀ w', (∃ n, w' = w.drewN n) → wpList P l.toArray (Exit.then (fun a w => Halt (wpPlan P l Q rest Hf a w) () () () () () ()) Q) (pick l [b]) a' w')
        (fun listed' a' w' hw' hL => by obtain ⟨rfl, hL⟩ := hL; exact step a' w' (hL w' hw')) _ _ _ _ ⟨0, rfl⟩ ?_
      exact head_then hsel hcl hB1 hr hbH' hc hs h

theorem wpAnyIn_plan {m : Nat} {Q : Exit → Act → World → Prop} (hsel : Region.noSelect l.toArray = true) : ∀ (plan : List (List Nat × Nat)) (Hf : List Nat) (listed : Array Bool) (a : Act) (w : World),
    Closed md l.toArray listed → planB md l.toArray plan Hf listed = true → wpPlanIn m P l Q plan Hf a w → wpAnyIn Fence.wide m P md l.toArray Q (planFuel plan Hf) listed a w
  | [], [], listed, a, w, _, hB, h => by
    simp only [planB, headB, marks, Bool.true_and, List.isEmpty_iff] at hB
    exact ⟨hB, h⟩
  | [], i :: Hf, listed, a, w, hcl, hB, h => by
    simp only [planB, Bool.and_eq_true, List.isEmpty_iff] at hB
    have := wpAnyQ_list (C := fun w' => ∃ n, w' = w.drewN n) hsel (i :: Hf) listed a hB.1 hB.2 h
    exact wpAnyIn_of_quiet (Q := fun a' => ∀ w', (∃ n, w' = w.drewN n) → Q .normal a' w') (fun _ w' hw' h => h w' hw') _ _ _ _ ⟨0, rfl⟩ this
  | (H, b) :: rest, Hf, listed, a, w, hcl, hB, h => by
    simp only [planB, Bool.and_eq_true, decide_eq_true_eq, Bool.not_eq_true'] at hB
    obtain ⟨⟨⟨⟨⟨hB1, hr⟩, hbH⟩, hc⟩, hs⟩, hB2⟩ := hB
    have hbH' : b ∉ H := by simpa using hbH
    have hbr : b ∈ Region.ready md l.toArray (marks H listed) := by rw [hr]; simp
    obtain ⟨_, ob, hob, _⟩ := mem_ready.1 hbr
    have hob' : l[b]? = some ob := by simpa using hob
    have step : ∀ (a' : Act) (w' : World), wpListIn Fence.wide m P l.toArray (Exit.then (fun a w => Halt (wpPlanIn m P l Q rest Hf a w) () () () () () ()) Q) (pick l [b]) a' w' → wpAnyIn Fence.wide m P md l.toArray Q (1 + planFuel rest Hf) (marks H listed) a' w' := by
      intro a' w' h'
      rw [pick_one hob'] at h'
      rw [Nat.add_comm]
      refine ⟨fun h0 => (by rw [hr] at h0; cases h0), fun i hi => ?_⟩
      rw [hr] at hi
      have : i = b := by simpa using hi
      subst this
      exact wpOpIn_mono (fun a'' w'' h'' => wpAnyIn_plan hsel rest Hf _ a'' w'' (closed_set (closed_head hcl hB1) hbr) hB2 h'') (wpListIn_pick hob h')
    cases H with
    | nil =>
      rw [planFuel, List.length_nil, Nat.zero_add]
      exact step a w h
    | cons i H =>
      refine wpAnyIn_of_headH (C := fun w' => ∃ n, w' = w.drewN n) (H := i :: H) (L := fun listed' a' => listed' = marks (i :: H) listed ∧ ∀ w', (∃ n, w' = w.drewN n) → wpListIn Fence.wide m P l.toArray (Exit.then (fun a w => Halt (wpPlanIn m P l Q rest Hf a w) () () () () () ()) Q) (pick l [b]) a' w')
        (fun listed' a' w' hw' hL => by obtain ⟨rfl, hL⟩ := hL; exact step a' w' (hL w' hw')) _ _ _ _ ⟨0, rfl⟩ ?_
      exact head_then hsel hcl hB1 hr hbH' hc hs h

/-- A region that draws its order, by a plan: what is asked speaks of the world ahead of it, and of that world after some draws. -/
theorem wp_plan {id : Nat} {Q : Exit → Act → World → Prop} {a : Act} {w : World} (i : Nat) (H : List Nat) (b : Nat) (rest : List (List Nat × Nat)) (Hf : List Nat) (hm : P.follows .mixedOrders = true)
    (hB : planOk l.toArray ((i :: H, b) :: rest) Hf = true) (h : wpPlan P l Q ((i :: H, b) :: rest) Hf a w) : (Code.region id l.toArray true).wp P Q a w := by
  simp only [planOk, planB, Bool.and_eq_true, decide_eq_true_eq, Bool.not_eq_true'] at hB
  obtain ⟨⟨hsel, hfuel⟩, ⟨⟨⟨⟨hB1, hr⟩, hbH⟩, hc⟩, hs⟩, hB2⟩ := hB
  have hbH' : b ∉ i :: H := by simpa using hbH
  have hbr : b ∈ Region.ready .any l.toArray (marks (i :: H) (Array.replicate l.toArray.size false)) := by rw [hr]; simp
  obtain ⟨_, ob, hob, _⟩ := mem_ready.1 hbr
  have hob' : l[b]? = some ob := by simpa using hob
  refine wp_region_any hm ?_
  have h2 := wpAny_of_headH (P := P) (C := fun w' => ∃ n, w' = w.drewN n) (g := 1 + planFuel rest Hf) (Q' := Q) (H := i :: H)
    (L := fun listed' a' => listed' = marks (i :: H) (Array.replicate l.toArray.size false) ∧ ∀ w', (∃ n, w' = w.drewN n) → wpList P l.toArray (Exit.then (fun a w => Halt (wpPlan P l Q rest Hf a w) () () () () () ()) Q) (pick l [b]) a' w')
    (fun listed' a' w' hw' hL => by
      obtain ⟨rfl, hL⟩ := hL
      have h' := hL w' hw'
      rw [pick_one hob'] at h'
      rw [Nat.add_comm]
      refine ⟨fun h0 => (by rw [hr] at h0; cases h0), fun j hj => ?_⟩
      rw [hr] at hj
      have : j = b := by simpa using hj
      subst this
      exact wpOp_mono (fun a'' w'' h'' => wpAny_plan hsel rest Hf _ a'' w'' (closed_set (closed_head closed_start hB1) hbr) hB2 h'') (wpList_pick hob h'))
    (i :: H).length (Array.replicate l.toArray.size false) a w.drew ⟨1, rfl⟩ (head_then hsel closed_start hB1 hr hbH' hc hs h)
  rw [show (i :: H).length + (1 + planFuel rest Hf) = l.toArray.size from hfuel] at h2
  exact h2

theorem wpIn_plan {m id : Nat} {Q : Exit → Act → World → Prop} {a : Act} {w : World} (i : Nat) (H : List Nat) (b : Nat) (rest : List (List Nat × Nat)) (Hf : List Nat) (hm : P.follows .mixedOrders = true)
    (hB : planOk l.toArray ((i :: H, b) :: rest) Hf = true) (h : wpPlanIn m P l Q ((i :: H, b) :: rest) Hf a w) : (Code.region id l.toArray true).wpIn Fence.wide m P Q a w := by
  simp only [planOk, planB, Bool.and_eq_true, decide_eq_true_eq, Bool.not_eq_true'] at hB
  obtain ⟨⟨hsel, hfuel⟩, ⟨⟨⟨⟨hB1, hr⟩, hbH⟩, hc⟩, hs⟩, hB2⟩ := hB
  have hbH' : b ∉ i :: H := by simpa using hbH
  have hbr : b ∈ Region.ready .any l.toArray (marks (i :: H) (Array.replicate l.toArray.size false)) := by rw [hr]; simp
  obtain ⟨_, ob, hob, _⟩ := mem_ready.1 hbr
  have hob' : l[b]? = some ob := by simpa using hob
  refine wpIn_region_any hm ?_
  have h2 := wpAnyIn_of_headH (n := m) (P := P) (C := fun w' => ∃ n, w' = w.drewN n) (g := 1 + planFuel rest Hf) (Q' := Q) (H := i :: H)
    (L := fun listed' a' => listed' = marks (i :: H) (Array.replicate l.toArray.size false) ∧ ∀ w', (∃ n, w' = w.drewN n) → wpListIn Fence.wide m P l.toArray (Exit.then (fun a w => Halt (wpPlanIn m P l Q rest Hf a w) () () () () () ()) Q) (pick l [b]) a' w')
    (fun listed' a' w' hw' hL => by
      obtain ⟨rfl, hL⟩ := hL
      have h' := hL w' hw'
      rw [pick_one hob'] at h'
      rw [Nat.add_comm]
      refine ⟨fun h0 => (by rw [hr] at h0; cases h0), fun j hj => ?_⟩
      rw [hr] at hj
      have : j = b := by simpa using hj
      subst this
      exact wpOpIn_mono (fun a'' w'' h'' => wpAnyIn_plan hsel rest Hf _ a'' w'' (closed_set (closed_head closed_start hB1) hbr) hB2 h'') (wpListIn_pick hob h'))
    (i :: H).length (Array.replicate l.toArray.size false) a w.drew ⟨1, rfl⟩ (head_then hsel closed_start hB1 hr hbH' hc hs h)
  rw [show (i :: H).length + (1 + planFuel rest Hf) = l.toArray.size from hfuel] at h2
  exact h2
end
end Go.Proofs.YtpekeilpdbdnnaaDoor
namespace Go.Proofs.YtpekeilpdbdnnaaDoor
open Go.RowKit

/-- All blocks that were there and are not in S lie as they lay; the streams are as they were. -/
structure Kept (S : Nat → Prop) (w w' : World) : Prop where
  os : w'.os = w.os
  tape : w'.tape = w.tape
  output : w'.output = w.output
  size : w.heap.size ≤ w'.heap.size
  block : ∀ k, k < w.heap.size → ¬ S k → w'.heap[k]? = w.heap[k]?

def NoBlock : Nat → Prop := fun _ => False

theorem Kept.refl (S : Nat → Prop) (w : World) : Kept S w w := ⟨rfl, rfl, rfl, Nat.le_refl _, fun _ _ _ => rfl⟩
theorem Kept.trans {S : Nat → Prop} {a b c : World} (h : Kept S a b) (k : Kept S b c) : Kept S a c :=
  ⟨k.os.trans h.os, k.tape.trans h.tape, k.output.trans h.output, Nat.le_trans h.size k.size,
   fun i hi hS => (k.block i (Nat.lt_of_lt_of_le hi h.size) hS).trans (h.block i hi hS)⟩
/-- The second step may also write what the first one made. -/
theorem Kept.trans' {S S' : Nat → Prop} {a b c : World} (h : Kept S a b) (k : Kept S' b c) (hS : ∀ i, i < a.heap.size → S' i → S i) : Kept S a c :=
  ⟨k.os.trans h.os, k.tape.trans h.tape, k.output.trans h.output, Nat.le_trans h.size k.size,
   fun i hi hn => (k.block i (Nat.lt_of_lt_of_le hi h.size) (fun hs => hn (hS i hi hs))).trans (h.block i hi hn)⟩
theorem Kept.mono {S S' : Nat → Prop} {a b : World} (h : Kept S a b) (hS : ∀ i, i < a.heap.size → S i → S' i) : Kept S' a b :=
  ⟨h.os, h.tape, h.output, h.size, fun i hi hn => h.block i hi (fun hs => hn (hS i hi hs))⟩
theorem Kept.drewN {S : Nat → Prop} {a w : World} (h : Kept S a w) (n : Nat) : Kept S a (w.drewN n) := ⟨h.os, h.tape, h.output, h.size, h.block⟩
theorem Kept.drew {S : Nat → Prop} {a w : World} (h : Kept S a w) : Kept S a w.drew := ⟨h.os, h.tape, h.output, h.size, h.block⟩
theorem Kept.alloc {S : Nat → Prop} {a w : World} (h : Kept S a w) (o : Obj) : Kept S a (w.alloc o) :=
  h.trans ⟨rfl, rfl, rfl, by simp, fun k hk _ => Below.heap_alloc _ _ _ hk⟩
theorem Kept.setCell {S : Nat → Prop} {a w : World} (h : Kept S a w) {p : Addr} (hp : p.block < a.heap.size → S p.block) (u : Value) : Kept S a (w.setCell p u) :=
  ⟨h.os, h.tape, h.output, by simpa [World.setCell] using h.size, fun k hk hn => by
    have hne : k ≠ p.block := fun e => hn (e ▸ hp (e ▸ hk))
    rw [Below.heap_setCell _ _ _ _ hne]; exact h.block k hk hn⟩
theorem Kept.grown {S : Nat → Prop} {a w w' : World} {row : Option Nat} (h : Kept S a w) (hg : w.grownBy w' row) (hr : ∀ k, row = some k → k < a.heap.size → S k) : Kept S a w' :=
  ⟨hg.os.trans h.os, hg.tape.trans h.tape, hg.output.trans h.output, Nat.le_trans h.size hg.size, fun k hk hn =>
    (hg.block k (Nat.lt_of_lt_of_le hk h.size) (fun e => hn (hr k e.symm hk))).trans (h.block k hk hn)⟩
theorem Kept.below {S : Nat → Prop} {a b : World} {B : Nat} (h : Kept S a b) (hB : B ≤ a.heap.size) (hS : ∀ i, S i → B ≤ i) : Below B a b :=
  ⟨h.os, h.tape, h.output, h.size, fun k hk => h.block k (Nat.lt_of_lt_of_le hk hB) (fun hs => by have := hS k hs; omega)⟩
theorem Kept.of_below {S : Nat → Prop} {a b : World} {B : Nat} (h : Below B a b) (hS : ∀ k, k < a.heap.size → B ≤ k → S k) : Kept S a b :=
  ⟨h.os, h.tape, h.output, h.size, fun k hk hn => h.block k (Nat.lt_of_not_le fun hle => hn (hS k hk hle))⟩

theorem lt_of_heap {w : World} {g : Nat} {o : Obj} (h : w.heap[g]? = some o) : g < w.heap.size := (Array.getElem?_eq_some_iff.1 h).1

/-- A block that was there and is not written. -/
theorem Kept.heap {S : Nat → Prop} {a b : World} {g : Nat} {o : Obj} (h : Kept S a b) (hg : a.heap[g]? = some o) (hS : ¬ S g) : b.heap[g]? = some o :=
  (h.block g (lt_of_heap hg) hS).trans hg

section
variable {w : World} {g : Nat} {cs : Array Value} {T : TypeId} {fz : Nat × Nat}
theorem cellB (h : w.heap[g]? = some (.cells cs T fz)) {i : Nat} {v : Value} (hi : cs[i]? = some v) : w.cell? ⟨g, i, none⟩ = some v := by
  simp [World.cell?, h, hi]
theorem frozenB (h : w.heap[g]? = some (.cells cs T (0, 0))) (i : Nat) : w.frozen? ⟨g, i, none⟩ = false := by
  simp [World.frozen?, h]
theorem heap_setCell_same (h : w.heap[g]? = some (.cells cs T fz)) (i : Nat) (v : Value) : (w.setCell ⟨g, i, none⟩ v).heap[g]? = some (.cells (cs.setIfInBounds i v) T fz) := by
  simp [World.setCell, Array.getElem?_modify, h]
theorem heap_setCell_ne (p : Addr) (v : Value) {k : Nat} (hne : k ≠ p.block) : (w.setCell p v).heap[k]? = w.heap[k]? := Below.heap_setCell _ _ _ _ hne
theorem heap_alloc_same (o : Obj) : (w.alloc o).heap[w.heap.size]? = some o := heap_alloc_new w o
theorem heap_alloc_lt (o : Obj) {k : Nat} (hk : k < w.heap.size) : (w.alloc o).heap[k]? = w.heap[k]? := Below.heap_alloc _ _ _ hk
theorem heap_drewN (n : Nat) : (w.drewN n).heap = w.heap := rfl
theorem heap_drew : w.drew.heap = w.heap := rfl
end

theorem blk1 {w : World} {g : Nat} {a : Value} {T : TypeId} (h : w.heap[g]? = some (.cells #[a] T (0, 0))) :
    w.cell? ⟨g, 0, none⟩ = some a ∧ w.frozen? ⟨g, 0, none⟩ = false := ⟨cellB h rfl, frozenB h 0⟩
theorem blk3 {w : World} {g : Nat} {a b c : Value} {T : TypeId} (h : w.heap[g]? = some (.cells #[a, b, c] T (0, 0))) :
    w.cell? ⟨g, 0, none⟩ = some a ∧ w.cell? ⟨g, 1, none⟩ = some b ∧ w.cell? ⟨g, 2, none⟩ = some c ∧
    w.frozen? ⟨g, 0, none⟩ = false ∧ w.frozen? ⟨g, 1, none⟩ = false ∧ w.frozen? ⟨g, 2, none⟩ = false :=
  ⟨cellB h rfl, cellB h rfl, cellB h rfl, frozenB h 0, frozenB h 1, frozenB h 2⟩

/-- What is owned is a slice of that length; where it has an element, it begins a row of its own. -/
theorem ownsRow_form {w : World} {base : Nat} {e : TypeId} {v : Value} {n : Nat} {xs : List Value} (h : w.ownsRow base e 1 v n xs) :
    ∃ ap cap, v = .slice ap n cap ∧ (0 < n → ∃ k cur, ap = some ⟨k, 0, none⟩ ∧ base ≤ k ∧ w.heap[k]? = some (.cells cur e (0, 0)) ∧ n ≤ cap ∧ cur.size = cap ∧ cur.toList.take n = xs) := by
  rcases h.2 with ⟨rfl, rfl⟩ | ⟨g, cap, cur, rfl, hb, hg, hn, _, hs, ht⟩
  · exact ⟨none, 0, rfl, fun h => by omega⟩
  · exact ⟨some ⟨g, 0, none⟩, cap, rfl, fun _ => ⟨g, cur, rfl, hb, hg, hn, by simpa using hs, by simpa using ht⟩⟩

/-- A slice value whose n elements are these cells. -/
def Holds (w : World) (ap : Option Addr) (n : Nat) (xs : List Value) : Prop :=
  xs.length = n ∧ (0 < n → ∃ ad, ap = some ad ∧ ∀ j v, xs[j]? = some v → w.cell? (ad.add j) = some v)

theorem ownsRow_holds {w : World} {base : Nat} {e : TypeId} {ap : Option Addr} {n cap : Nat} {xs : List Value} (h : w.ownsRow base e 1 (.slice ap n cap) n xs) : Holds w ap n xs := by
  refine ⟨by simpa using h.1, fun hn => ?_⟩
  rcases h.2 with ⟨h1, h2⟩ | ⟨g, cap', cur, he, hb, hg, hle, _, hs, ht⟩
  · omega
  · cases he
    exact ⟨⟨g, 0, none⟩, rfl, h.cells (g := g) rfl⟩

theorem ownsRow_lt {w : World} {base : Nat} {e : TypeId} {ap : Option Addr} {n cap : Nat} {xs : List Value} (h : w.ownsRow base e 1 (.slice ap n cap) n xs) : ∀ ad, ap = some ad → ad.block < w.heap.size ∧ base ≤ ad.block := by
  rintro ad rfl
  rcases h.2 with ⟨h1, _⟩ | ⟨g, cap', cur, he, hb, hg, _⟩
  · cases h1
  · cases he
    exact ⟨lt_of_heap hg, hb⟩

theorem owned_row {w : World} {base : Nat} {e : TypeId} {g n : Nat} {xs : List Value} (h : w.ownsRow base e 1 (.slice (some ⟨g, 0, none⟩) n n) n xs) : w.heap[g]? = some (.cells xs.toArray e (0, 0)) := by
  rcases h.2 with ⟨h1, _⟩ | ⟨g', cap, cur, he, hb, hg, hle, _, hs, ht⟩
  · cases h1
  · cases he
    rw [hg]
    have : cur.toList.take (n * 1) = cur.toList := List.take_of_length_le (by simp; omega)
    rw [this] at ht
    rw [← ht]

/-- 'copy(dst, src)' into a row that is known whole: an equation for the walk. -/
theorem run_copy_into {P : Program} {w : World} (dT sT ty elem : TypeId) (hu : P.underlying dT = some (.slice elem)) (hs : (P.info? elem).map (·.size) = some 1)
    (g o N capd : Nat) (ap : Option Addr) (n cap : Nat) (cur : Array Value) (t : TypeId) (X : List Value) (hg : w.heap[g]? = some (.cells cur t (0, 0))) (hX : Holds w ap n X)
    (hfit : o + min n N ≤ cur.size) (h1 : ∀ v ∈ X, v.oneCell' = true) :
    ∃ w', (Builtin.copy_ #[dT, sT] ty #[.slice (some ⟨g, o, none⟩) N capd, .slice ap n cap]).run P w = .ok (.int .i64 (min n N : Nat)) w' ∧
      w'.heap[g]? = some (.cells (cur.toList.take o ++ X.take (min n N) ++ cur.toList.drop (o + min n N)).toArray t (0, 0)) ∧ Kept (fun k => k = g) w w' := by
  by_cases h0 : min n N = 0
  · refine ⟨w, ?_, ?_, Kept.refl _ _⟩
    · rw [run_copy_none (P := P) w dT sT ty elem _ ap N capd n cap hu hs (by simpa [Nat.min_def] using h0), h0]; rfl
    · rw [h0]; simpa using hg
  · obtain ⟨ad, rfl, hc⟩ := hX.2 (by omega)
    have hlen : (X.take (min n N)).length = min n N := by rw [List.length_take, hX.1]; omega
    have hr := run_copy_row (P := P) w dT sT ty elem g o N capd ad n cap cur t (X.take (min n N)) hu hs hg (by rw [hlen])
      (fun j v hj => hc j v (by rw [List.getElem?_take] at hj; split at hj <;> simp_all)) (by rw [hlen]; exact hfit) (fun v hv => h1 v (List.mem_of_mem_take hv))
    rw [hlen] at hr
    exact ⟨_, hr, setRow_heap w g _ _ t _ hg, ⟨rfl, rfl, rfl, by simp [World.setRow], fun k _ hk => setRow_other w g k _ hk⟩⟩

theorem cell_lt {w : World} {a : Addr} {v : Value} (h : w.cell? a = some v) : a.block < w.heap.size := by
  rcases Nat.lt_or_ge a.block w.heap.size with hl | hl
  · exact hl
  · simp [World.cell?, Array.getElem?_eq_none hl] at h

theorem Holds.below {w w' : World} {ap : Option Addr} {n : Nat} {xs : List Value} (h : Holds w ap n xs) (hB : Below w.heap.size w w') : Holds w' ap n xs := by
  refine ⟨h.1, fun hn => ?_⟩
  obtain ⟨ad, rfl, hc⟩ := h.2 hn
  refine ⟨ad, rfl, fun j v hj => ?_⟩
  have hcj := hc j v hj
  rw [World.cell?_of_block (w := w) (hB.block _ (cell_lt hcj))]
  exact hcj

theorem Holds.take {w : World} {ap : Option Addr} {n : Nat} {xs : List Value} (h : Holds w ap n xs) (M : Nat) : Holds w ap (xs.take M).length (xs.take M) := by
  refine ⟨rfl, fun hn => ?_⟩
  obtain ⟨ad, rfl, hc⟩ := h.2 (by rw [← h.1]; rw [List.length_take] at hn; omega)
  refine ⟨ad, rfl, fun j v hj => hc j v ?_⟩
  rw [List.getElem?_take] at hj
  split at hj
  · exact hj
  · cases hj

theorem Holds.cell {w : World} {ap : Option Addr} {n : Nat} {xs : List Value} (h : Holds w ap n xs) {j : Nat} (hj : j < n) : ∃ ad, ap = some ad ∧ w.cell? (ad.add j) = some (xs[j]'(by rw [h.1]; exact hj)) := by
  obtain ⟨ad, rfl, hc⟩ := h.2 (by omega)
  exact ⟨ad, rfl, hc j _ (List.getElem?_eq_getElem _)⟩

theorem Kept.allocd (w : World) (o : Obj) : Kept NoBlock w (w.alloc o) := (Kept.refl NoBlock w).alloc o

end Go.Proofs.YtpekeilpdbdnnaaDoor
namespace Go.Proofs.YtpekeilpdbdnnaaDoor
open Go.RowKit

/-- A byte's cell. -/
def bv (b : UInt8) : Value := .int .u8 b.toNat

theorem bv_one (l : List UInt8) : ∀ v ∈ l.map bv, v.oneCell' = true := by
  intro v hv
  obtain ⟨b, _, rfl⟩ := List.mem_map.1 hv
  rfl

theorem bv_inj {a b : List UInt8} (h : a.map bv = b.map bv) : a = b := by
  have hi : Function.Injective bv := fun x y hxy => by
    simp only [bv, Value.int.injEq, true_and] at hxy
    exact UInt8.toNat_inj.1 (Int.ofNat_inj.1 hxy)
  exact (List.map_inj_right (fun _ _ h => hi h)).1 h

theorem addr_add (b o j : Nat) : Addr.add ⟨b, o, none⟩ j = ⟨b, o + j, none⟩ := by unfold Addr.add; split <;> simp_all

/-- 'string(b)' of a slice whose cells are known. -/
theorem conv_bytes {P : Program} (w : World) (src dst e : TypeId) (hs : P.underlying src = some (.slice e)) (he : P.underlying e = some (.int .u8)) (hd : P.underlying dst = some .string)
    {ap : Option Addr} {n : Nat} (cap : Nat) {l : List UInt8} (h : Holds w ap n (l.map bv)) : (convert src dst (.slice ap n cap)).run P w = .ok (.string ⟨l.toArray⟩) w := by
  have hl : l.length = n := by simpa using h.1
  subst hl
  cases ap with
  | none =>
    have hz : l = [] := by
      cases l with
      | nil => rfl
      | cons a l => obtain ⟨_, h, _⟩ := h.2 (by simp); cases h
    subst hz
    exact run_convert_bytes_nil w src e hs he _ _ dst hd
  | some a =>
    refine run_convert_bytes_back w src dst e a cap l hs he hd (fun j hj => ?_)
    obtain ⟨a', e', hc⟩ := h.2 (by omega)
    cases e'
    exact hc j _ (by simp [List.getElem?_eq_getElem hj, bv])

theorem bytesWorld_kept (w : World) (e : TypeId) (s : ByteArray) : Kept NoBlock w (Lib.bytesWorld w e s) :=
  ⟨rfl, rfl, rfl, by rw [Lib.bytesWorld_size]; omega, fun k hk _ => Lib.bytesWorld_at_old w e s k hk⟩

theorem bytesWorld_holds (w : World) (e : TypeId) (s : ByteArray) : Holds (Lib.bytesWorld w e s) (some ⟨w.heap.size, 0, none⟩) s.size (s.data.toList.map bv) := by
  have hsz : s.size = s.data.toList.length := by rw [Array.length_toList]; rfl
  refine ⟨by rw [List.length_map, hsz], fun _ => ⟨_, rfl, fun j v hj => ?_⟩⟩
  rw [addr_add, Nat.zero_add]
  have hd : j < s.data.toList.length := by
    have := (List.getElem?_eq_some_iff.1 hj).1
    rwa [List.length_map] at this
  rw [Lib.bytesWorld_cell w e s j (by omega), List.getD_eq_getElem?_getD]
  rw [List.getElem?_map, List.getElem?_eq_getElem hd, Option.map_some] at hj
  rw [← Option.some.inj hj, List.getElem?_eq_getElem hd]
  rfl
end Go.Proofs.YtpekeilpdbdnnaaDoor
namespace Go.Proofs.YtpekeilpdbdnnaaDoor
open Go.RowKit

theorem wpList_append_holds {P : Program} {w : World} {ops : Array Oper} {rest : List Oper} {o : Oper} {a : Act} {Q : Exit → Act → World → Prop} (hgd : o.guard = none) (s x : Operand) (t : TypeId)
    (ho : o.op = .call { callee := .builtin .append, args := #[s, x], argTypes := #[t, t] })
    (base : Nat) (e : TypeId) (i : TypeInfo) (z : Value) (bytes : Nat) (ht : P.underlying t = some (.slice e)) (hi : P.info? e = some i) (hz : i.zero = some z)
    (hsize : i.size = 1) (hby : i.bytes = bytes) (hzs : z.cells.size = 1)
    (v : Value) (n : Nat) (xs : List Value) (hs : a.eval s = v) (hown : w.ownsRow base e 1 v n xs)
    (ap : Option Addr) (m c : Nat) (news : List Value) (hx : a.eval x = .slice ap m c) (hH : Holds w ap m news) (hnil : ap = none → c = 0) (h1 : ∀ u ∈ news, u.oneCell' = true)
    (h63 : n + m ≤ maxLen) (hbytes : (n + m) * bytes ≤ 140737488355328) (hbase : base ≤ w.heap.size)
    (h : ∀ v' w', w'.ownsRow base e 1 v' (n + m) (xs ++ news) → w.grownBy w' v.ownBlock → wpList P ops Q rest (a.put o.dst v') w') : wpList P ops Q (o :: rest) a w := by
  cases ap with
  | none =>
    have hm : m = 0 := by
      rcases Nat.eq_zero_or_pos m with h | h
      · exact h
      · obtain ⟨_, h, _⟩ := hH.2 h; cases h
    obtain rfl : c = 0 := hnil rfl
    subst hm
    have hn : news = [] := List.eq_nil_of_length_eq_zero hH.1
    subst hn
    exact wpList_append_own_none hgd s x t ho base e i 1 ht hi v n xs hs hown hx (h v w (by simpa using hown) (World.grownBy.refl _ _))
  | some ad =>
    refine wpList_append_own w hgd s x t ho base e i z 1 bytes ht hi hz hsize hby hzs (by decide) v n xs hs hown ad m c news hx (by simpa using hH.1) (fun j u hj => ?_) h1 h63 hbytes hbase (fun v' w' h2 h3 _ => h v' w' h2 h3)
    have : 0 < m := by rw [← hH.1]; exact Nat.lt_of_le_of_lt (Nat.zero_le j) (List.getElem?_eq_some_iff.1 hj).1
    obtain ⟨ad', e', hc⟩ := hH.2 this
    cases e'
    exact hc j u hj

theorem ownsRow_lower {w : World} {base base' : Nat} {e : TypeId} {v : Value} {n : Nat} {xs : List Value} (h : w.ownsRow base e 1 v n xs) (hb : base' ≤ base) : w.ownsRow base' e 1 v n xs := by
  refine ⟨h.1, ?_⟩
  rcases h.2 with h' | ⟨g, cap, cur, e1, e2, rest⟩
  · exact .inl h'
  · exact .inr ⟨g, cap, cur, e1, Nat.le_trans hb e2, rest⟩

/-- A part of a row that lies in a block. -/
theorem holds_row {w : World} {k : Nat} {cur : Array Value} {T : TypeId} {fz : Nat × Nat} {n : Nat} {xs : List Value} (h : w.heap[k]? = some (.cells cur T fz)) (ht : cur.toList.take n = xs) (hn : xs.length = n) (i m : Nat) (him : i + m ≤ n) :
    Holds w (some ⟨k, i, none⟩) m ((xs.drop i).take m) := by
  refine ⟨by rw [List.length_take, List.length_drop]; omega, fun _ => ⟨_, rfl, fun j v hj => ?_⟩⟩
  have hadd : Addr.add ⟨k, i, none⟩ j = ⟨k, i + j, none⟩ := by unfold Addr.add; split <;> simp_all
  rw [hadd]
  refine cellB h ?_
  rw [List.getElem?_take] at hj
  split at hj
  · rw [List.getElem?_drop, ← ht, List.getElem?_take] at hj
    split at hj
    · rw [← Array.getElem?_toList]; exact hj
    · cases hj
  · cases hj

theorem holds_fresh (w : World) (T : TypeId) (xs : List Value) : Holds (w.alloc (.cells xs.toArray T)) (some ⟨w.heap.size, 0, none⟩) xs.length xs := by
  refine ⟨rfl, fun _ => ⟨_, rfl, fun j v hj => ?_⟩⟩
  have : Addr.add ⟨w.heap.size, 0, none⟩ j = ⟨w.heap.size, j, none⟩ := by unfold Addr.add; split <;> simp_all
  rw [this]
  exact cellB (heap_alloc_new w _) (by simpa using hj)

theorem below_app0 {B : Nat} {w wi wj : World} {e : TypeId} {v : Value} {n : Nat} {xs : List Value} (hB : Below B w wi) (hBs : B ≤ wi.heap.size) (hown : wi.ownsRow B e 1 v n xs) (hg : wi.grownBy wj v.ownBlock) : Below B w wj :=
  hB.grown hg hBs (fun k h => (hown.lt k h).1)
theorem below_app {B : Nat} {w wi wj : World} {o : Obj} {e : TypeId} {v : Value} {n : Nat} {xs : List Value} (hB : Below B w wi) (hBs : B ≤ wi.heap.size) (hown : wi.ownsRow B e 1 v n xs) (hg : (wi.alloc o).grownBy wj v.ownBlock) : Below B w wj :=
  (hB.alloc hBs o).grown hg (by simp; omega) (fun k h => (hown.lt k h).1)
end Go.Proofs.YtpekeilpdbdnnaaDoor
namespace Go.Proofs.YtpekeilpdbdnnaaDoor
open Go.RowKit

/-- The block in which a slice's elements lie. -/
def vblk : Value → Option Nat
  | .slice (some a) _ _ => some a.block
  | _ => none

/-- v is a slice whose elements are these cells. -/
def RowV (w : World) (v : Value) (xs : List Value) : Prop := ∃ ap cap, v = .slice ap xs.length cap ∧ Holds w ap xs.length xs ∧ xs.length ≤ cap ∧ (ap = none → cap = 0)

/-- v is a slice of these bytes. -/
def BytesV (w : World) (v : Value) (l : List UInt8) : Prop := RowV w v (l.map bv)

theorem Holds.keptS {S : Nat → Prop} {w w' : World} {ap : Option Addr} {n : Nat} {xs : List Value} (h : Holds w ap n xs) (hk : Kept S w w') (hS : ∀ ad, ap = some ad → ¬ S ad.block) : Holds w' ap n xs := by
  refine ⟨h.1, fun hn => ?_⟩
  obtain ⟨ad, rfl, hc⟩ := h.2 hn
  refine ⟨ad, rfl, fun j v hj => ?_⟩
  have hcj := hc j v hj
  have hbl : (ad.add j).block = ad.block := by unfold Addr.add; split <;> rfl
  rw [World.cell?_of_block (w := w) (hk.block _ (cell_lt hcj) (by rw [hbl]; exact hS ad rfl))]
  exact hcj

theorem RowV.kept {S : Nat → Prop} {w w' : World} {v : Value} {xs : List Value} (h : RowV w v xs) (hk : Kept S w w') (hS : ∀ b, vblk v = some b → ¬ S b) : RowV w' v xs := by
  obtain ⟨ap, cap, rfl, h1, h2, h3⟩ := h
  exact ⟨ap, cap, rfl, h1.keptS hk (fun ad e => by subst e; exact hS _ rfl), h2, h3⟩
theorem RowV.keptNo {w w' : World} {v : Value} {xs : List Value} (h : RowV w v xs) (hk : Kept NoBlock w w') : RowV w' v xs := h.kept hk (fun _ _ h => h)
theorem RowV.below {w w' : World} {v : Value} {xs : List Value} (h : RowV w v xs) (hB : Below w.heap.size w w') : RowV w' v xs := by
  obtain ⟨ap, cap, rfl, h1, h2, h3⟩ := h
  exact ⟨ap, cap, rfl, h1.below hB, h2, h3⟩
theorem RowV.drewN {w : World} {v : Value} {xs : List Value} (h : RowV w v xs) (n : Nat) : RowV (w.drewN n) v xs := h

theorem RowV.nil (w : World) : RowV w (.slice none 0 0) [] := ⟨none, 0, rfl, ⟨rfl, fun h => absurd h (Nat.lt_irrefl _)⟩, Nat.le_refl _, fun _ => rfl⟩

theorem RowV.lt {w : World} {v : Value} {xs : List Value} (h : RowV w v xs) (h0 : xs ≠ []) : ∃ b, vblk v = some b ∧ b < w.heap.size := by
  obtain ⟨ap, cap, rfl, h1, h2, h3⟩ := h
  obtain ⟨ad, rfl, hc⟩ := h1.2 (List.length_pos_iff.2 h0)
  have := cell_lt (hc 0 _ (List.getElem?_eq_getElem (List.length_pos_iff.2 h0)))
  have e : (ad.add 0).block = ad.block := by unfold Addr.add; split <;> rfl
  rw [e] at this
  exact ⟨ad.block, rfl, this⟩

/-- A slice as the walk has it: its parts. -/
theorem RowV.parts {w : World} {v : Value} {xs : List Value} (h : RowV w v xs) : ∃ ap cap, v = .slice ap xs.length cap ∧ xs.length ≤ cap ∧ (ap = none → cap = 0) := by
  obtain ⟨ap, cap, rfl, h1, h2, h3⟩ := h
  exact ⟨ap, cap, rfl, h2, h3⟩

theorem RowV.holds {w : World} {ap : Option Addr} {n cap : Nat} {xs : List Value} (h : RowV w (.slice ap n cap) xs) : Holds w ap n xs ∧ xs.length = n ∧ n ≤ cap ∧ (ap = none → cap = 0) := by
  obtain ⟨ap', cap', e, h1, h2, h3⟩ := h
  cases e
  exact ⟨h1, rfl, h2, h3⟩

theorem RowV.mk {w : World} {ap : Option Addr} {n cap : Nat} {xs : List Value} (h : Holds w ap n xs) (h1 : n ≤ cap) (h2 : ap = none → cap = 0) : RowV w (.slice ap n cap) xs := by
  obtain rfl : xs.length = n := h.1
  exact ⟨ap, cap, rfl, h, h1, h2⟩

/-- An element. -/
theorem RowV.cell {w : World} {ap : Option Addr} {n cap : Nat} {xs : List Value} (h : RowV w (.slice ap n cap) xs) {i : Nat} {v : Value} (hi : xs[i]? = some v) : ∃ ad, ap = some ad ∧ w.cell? (ad.add i) = some v := by
  obtain ⟨h1, h2, h3, h4⟩ := h.holds
  have hl := (List.getElem?_eq_some_iff.1 hi).1
  obtain ⟨ad, e, hc⟩ := h1.2 (by omega)
  exact ⟨ad, e, hc i v hi⟩

/-- The address of a part of a slice. -/
def partAt (ap : Option Addr) (lo cap : Nat) : Option Addr := if cap = lo then ap else ap.map (·.add lo)

theorem addr_add_add (a : Addr) (i j : Nat) : (a.add i).add j = a.add (i + j) := by
  obtain ⟨b, o, x⟩ := a
  by_cases hi : i = 0
  · subst hi; simp [Addr.add]
  · by_cases hj : j = 0
    · subst hj; simp [Addr.add]
    · simp [Addr.add, hi, hj, Nat.add_assoc]

/-- 'x[lo:hi]'. -/
theorem RowV.part {w : World} {ap : Option Addr} {n cap : Nat} {xs : List Value} (h : RowV w (.slice ap n cap) xs) (lo hi : Nat) (h1 : lo ≤ hi) (h2 : hi ≤ n) : RowV w (.slice (partAt ap lo cap) (hi - lo) (cap - lo)) ((xs.take hi).drop lo) := by
  obtain ⟨g1, g2, g3, g4⟩ := h.holds
  refine RowV.mk ⟨by rw [List.length_drop, List.length_take]; omega, fun hp => ?_⟩ (by omega) (fun hn => ?_)
  · obtain ⟨ad, rfl, hc⟩ := g1.2 (by omega)
    refine ⟨ad.add lo, by unfold partAt; rw [if_neg (by omega)]; rfl, fun j v hj => ?_⟩
    rw [addr_add_add]
    rw [List.getElem?_drop, List.getElem?_take] at hj
    split at hj
    · exact hc _ v hj
    · cases hj
  · unfold partAt at hn
    split at hn
    · omega
    · cases ap with
      | none => have := g4 rfl; omega
      | some a => cases hn

theorem RowV.tail {w : World} {ap : Option Addr} {n cap : Nat} {xs : List Value} (h : RowV w (.slice ap n cap) xs) (lo : Nat) (h2 : lo ≤ n) : RowV w (.slice (partAt ap lo cap) (n - lo) (cap - lo)) (xs.drop lo) := by
  have := h.part lo n h2 (Nat.le_refl _)
  rwa [List.take_of_length_le (by rw [h.holds.2.1]; exact Nat.le_refl _)] at this
theorem RowV.front {w : World} {ap : Option Addr} {n cap : Nat} {xs : List Value} (h : RowV w (.slice ap n cap) xs) (hi : Nat) (h2 : hi ≤ n) : RowV w (.slice ap hi cap) (xs.take hi) := by
  obtain ⟨g1, g2, g3, g4⟩ := h.holds
  refine RowV.mk ⟨by rw [List.length_take]; omega, fun hp => ?_⟩ (by omega) g4
  obtain ⟨ad, rfl, hc⟩ := g1.2 (by omega)
  refine ⟨ad, rfl, fun j v hj => hc j v ?_⟩
  rw [List.getElem?_take] at hj
  split at hj
  · exact hj
  · cases hj

theorem vblk_slice (ap : Option Addr) (n c : Nat) : vblk (.slice ap n c) = ap.map (·.block) := by cases ap <;> rfl
theorem partAt_blk {ap : Option Addr} {lo n n' cap c c' : Nat} : vblk (.slice (partAt ap lo cap) n c) = vblk (.slice ap n' c') := by
  rw [vblk_slice, vblk_slice]
  unfold partAt
  split
  · rfl
  · cases ap with
    | none => rfl
    | some a => show some (a.add lo).block = some a.block; unfold Addr.add; split <;> rfl

theorem RowV.front0 {w : World} {ap : Option Addr} {n cap : Nat} {xs : List Value} (h : RowV w (.slice ap n cap) xs) (hi : Nat) (h2 : hi ≤ n) : RowV w (.slice (partAt ap 0 cap) hi cap) (xs.take hi) := by
  have := h.part 0 hi (Nat.zero_le _) h2
  rwa [List.drop_zero, Nat.sub_zero, Nat.sub_zero] at this

theorem BytesV.front0 {w : World} {ap : Option Addr} {n cap : Nat} {l : List UInt8} (h : BytesV w (.slice ap n cap) l) (hi : Nat) (h2 : hi ≤ n) : BytesV w (.slice (partAt ap 0 cap) hi cap) (l.take hi) := by
  have := RowV.front0 h hi h2
  rwa [← List.map_take] at this
theorem BytesV.tail {w : World} {ap : Option Addr} {n cap : Nat} {l : List UInt8} (h : BytesV w (.slice ap n cap) l) (lo : Nat) (h2 : lo ≤ n) : BytesV w (.slice (partAt ap lo cap) (n - lo) (cap - lo)) (l.drop lo) := by
  have := RowV.tail h lo h2
  rwa [← List.map_drop] at this
theorem BytesV.part {w : World} {ap : Option Addr} {n cap : Nat} {l : List UInt8} (h : BytesV w (.slice ap n cap) l) (lo hi : Nat) (h1 : lo ≤ hi) (h2 : hi ≤ n) : BytesV w (.slice (partAt ap lo cap) (hi - lo) (cap - lo)) ((l.take hi).drop lo) := by
  have := RowV.part h lo hi h1 h2
  rwa [← List.map_take, ← List.map_drop] at this
theorem BytesV.kept {S : Nat → Prop} {w w' : World} {v : Value} {l : List UInt8} (h : BytesV w v l) (hk : Kept S w w') (hS : ∀ b, vblk v = some b → ¬ S b) : BytesV w' v l := RowV.kept h hk hS
theorem BytesV.keptNo {w w' : World} {v : Value} {l : List UInt8} (h : BytesV w v l) (hk : Kept NoBlock w w') : BytesV w' v l := RowV.keptNo h hk
theorem BytesV.below {w w' : World} {v : Value} {l : List UInt8} (h : BytesV w v l) (hB : Below w.heap.size w w') : BytesV w' v l := RowV.below h hB
theorem BytesV.parts {w : World} {v : Value} {l : List UInt8} (h : BytesV w v l) : ∃ ap cap, v = .slice ap l.length cap ∧ l.length ≤ cap ∧ (ap = none → cap = 0) := by
  have := RowV.parts h
  rwa [List.length_map] at this
theorem BytesV.nil (w : World) : BytesV w (.slice none 0 0) [] := RowV.nil w

/-- A block of two cells, both stored. -/
theorem two_stores {w : World} {g : Nat} {a b x y : Value} {T : TypeId} (h : w.heap[g]? = some (.cells #[a, b] T (0, 0))) :
    ((w.setCell ⟨g, 0, none⟩ x).setCell ⟨g, 1, none⟩ y).heap[g]? = some (.cells #[x, y] T (0, 0)) ∧ Kept (fun k => k = g) w ((w.setCell ⟨g, 0, none⟩ x).setCell ⟨g, 1, none⟩ y) := by
  refine ⟨?_, Kept.setCell (S := fun k => k = g) (p := ⟨g, 1, none⟩) (Kept.setCell (S := fun k => k = g) (p := ⟨g, 0, none⟩) (Kept.refl _ _) (fun _ => rfl) _) (fun _ => rfl) _⟩
  exact heap_setCell_same (heap_setCell_same h 0 x) 1 y

theorem Kept.ofB {w w' : World} (h : Below w.heap.size w w') : Kept NoBlock w w' := Kept.of_below h (fun _ h1 h2 => absurd h1 (by omega))
theorem Kept.toB {w w' : World} (h : Kept NoBlock w w') : Below w.heap.size w w' := h.below (Nat.le_refl _) (fun _ h => h.elim)
theorem Kept.anyS {S : Nat → Prop} {w w' : World} (h : Kept NoBlock w w') : Kept S w w' := h.mono (fun _ _ h => h.elim)

theorem partAt_zero (a : Option Addr) (m : Nat) : partAt a 0 m = a := by
  unfold partAt
  split
  · rfl
  · cases a with
    | none => rfl
    | some a => simp [Addr.add]
theorem BytesV.front {w : World} {ap : Option Addr} {n cap : Nat} {l : List UInt8} (h : BytesV w (.slice ap n cap) l) (hi : Nat) (h2 : hi ≤ n) : BytesV w (.slice ap hi cap) (l.take hi) := by
  have := h.front0 hi h2
  rwa [partAt_zero] at this

/-- The walk's own form of a part. -/
theorem fold_some (a : Addr) (l m : Nat) (hl : l ≠ 0) : (if m = l then some a else some { block := a.block, off := a.off + l, spot := none }) = partAt (some a) l m := by
  unfold partAt
  simp [Addr.add, hl]
theorem fold_some' (a : Addr) (l m : Nat) : (if m = l then some a else some (a.add l)) = partAt (some a) l m := rfl
theorem fold_part (a : Option Addr) (l m : Nat) : (if m = l then a else Option.map (fun x => x.add l) a) = partAt a l m := rfl
end Go.Proofs.YtpekeilpdbdnnaaDoor
namespace Go.Proofs.YtpekeilpdbdnnaaDoor
open Go.RowKit Go.Lib

/-- The slice value v owns the cells xs, one an element; no cell behind them is frozen. -/
def OwnM (w : World) (base : Nat) (e : TypeId) (v : Value) (n : Nat) (xs : List Value) : Prop :=
  xs.length = n ∧ ((v = .slice none 0 0 ∧ n = 0) ∨
   ∃ g cap cur fz, v = .slice (some ⟨g, 0, none⟩) n cap ∧ base ≤ g ∧ w.heap[g]? = some (.cells cur e fz) ∧ (fz.2 ≤ n ∨ cap ≤ fz.1) ∧ n ≤ cap ∧ cap ≤ maxLen ∧ cur.size = cap ∧ cur.toList.take n = xs)

section
variable {w : World} {base : Nat} {e : TypeId} {v : Value} {n : Nat} {xs : List Value}

theorem OwnM.of (h : w.ownsRow base e 1 v n xs) : OwnM w base e v n xs := by
  refine ⟨by simpa using h.1, ?_⟩
  rcases h.2 with ⟨h1, h2⟩ | ⟨g, cap, cur, hv, hb, hg, h1, h2, h3, h4⟩
  · exact .inl ⟨h1, h2⟩
  · exact .inr ⟨g, cap, cur, (0, 0), hv, hb, hg, .inl (Nat.zero_le _), h1, h2, by simpa using h3, by simpa using h4⟩

theorem OwnM.nil (w : World) (base : Nat) (e : TypeId) : OwnM w base e (.slice none 0 0) 0 [] := ⟨rfl, .inl ⟨rfl, rfl⟩⟩

theorem OwnM.lt (h : OwnM w base e v n xs) : ∀ k, v.ownBlock = some k → base ≤ k ∧ k < w.heap.size := by
  intro k hk
  rcases h.2 with ⟨rfl, _⟩ | ⟨g, cap, cur, fz, rfl, hb, hg, _⟩
  · simp [Value.ownBlock] at hk
  · simp [Value.ownBlock] at hk
    subst hk
    exact ⟨hb, (Array.getElem?_eq_some_iff.1 hg).1⟩

theorem OwnM.lower (h : OwnM w base e v n xs) {b : Nat} (hb : b ≤ base) : OwnM w b e v n xs := by
  refine ⟨h.1, ?_⟩
  rcases h.2 with hn | ⟨g, cap, cur, fz, h1, h2, rest⟩
  · exact .inl hn
  · exact .inr ⟨g, cap, cur, fz, h1, Nat.le_trans hb h2, rest⟩

theorem OwnM.keptS {S : Nat → Prop} {w' : World} (h : OwnM w base e v n xs) (hk : Kept S w w') (hS : ∀ k, base ≤ k → ¬ S k) : OwnM w' base e v n xs := by
  refine ⟨h.1, ?_⟩
  rcases h.2 with hn | ⟨g, cap, cur, fz, h1, h2, h3, rest⟩
  · exact .inl hn
  · exact .inr ⟨g, cap, cur, fz, h1, h2, hk.heap h3 (hS g h2), rest⟩
theorem OwnM.kept (h : OwnM w base e v n xs) {w' : World} (hk : Kept NoBlock w w') : OwnM w' base e v n xs := h.keptS hk (fun _ _ h => h)
theorem OwnM.drewN (h : OwnM w base e v n xs) (k : Nat) : OwnM (w.drewN k) base e v n xs := h
theorem OwnM.alloc (h : OwnM w base e v n xs) (o : Obj) : OwnM (w.alloc o) base e v n xs := h.kept ((Kept.refl _ w).alloc o)

theorem OwnM.holds {ap : Option Addr} {cap : Nat} (h : OwnM w base e (.slice ap n cap) n xs) : Holds w ap n xs := by
  refine ⟨h.1, fun hn => ?_⟩
  rcases h.2 with ⟨h1, h2⟩ | ⟨g, cap', cur, fz, he, hb, hg, hf, hle, _, hs, ht⟩
  · omega
  · cases he
    refine ⟨⟨g, 0, none⟩, rfl, fun j u hu => ?_⟩
    have hadd : (⟨g, 0, none⟩ : Addr).add j = ⟨g, j, none⟩ := by unfold Addr.add; split <;> simp_all
    rw [hadd]
    refine cellB hg ?_
    rw [← ht, List.getElem?_take] at hu
    split at hu
    · simpa using hu
    · cases hu

theorem OwnM.row (h : OwnM w base e v n xs) : RowV w v xs := by
  rcases h.2 with ⟨rfl, h0⟩ | ⟨g, cap, cur, fz, rfl, hb, hg, hf, hle, hc, hs, ht⟩
  · obtain rfl : xs = [] := List.eq_nil_of_length_eq_zero (by rw [h.1, h0])
    subst h0
    exact RowV.nil w
  · exact RowV.mk (OwnM.holds (cap := cap) h) hle (fun h => by cases h)

theorem OwnM.max (h : OwnM w base e v n xs) : n ≤ 9223372036854775807 := by
  rcases h.2 with ⟨_, rfl⟩ | ⟨g, cap, cur, fz, _, _, _, _, hle, hc, _⟩
  · omega
  · unfold maxLen at hc; omega

theorem OwnM.form (h : OwnM w base e v n xs) : ∃ ap cap, v = .slice ap n cap ∧ n ≤ cap ∧ (ap = none → cap = 0) := by
  rcases h.2 with ⟨rfl, rfl⟩ | ⟨g, cap, cur, fz, rfl, hb, hg, hf, hle, hc, hs, ht⟩
  · exact ⟨none, 0, rfl, Nat.le_refl _, fun _ => rfl⟩
  · exact ⟨_, cap, rfl, hle, fun h => by cases h⟩

theorem OwnM.blk (h : OwnM w base e v n xs) : ∀ k, vblk v = some k → base ≤ k ∧ k < w.heap.size := by
  intro k hk
  rcases h.2 with ⟨rfl, _⟩ | ⟨g, cap, cur, fz, rfl, hb, hg, _⟩
  · cases hk
  · cases hk
    exact ⟨hb, lt_of_heap hg⟩
theorem OwnM.typed (h : OwnM w base e v n xs) : ∀ k, vblk v = some k → ∃ cs fz, w.heap[k]? = some (.cells cs e fz) := by
  intro k hk
  rcases h.2 with ⟨rfl, _⟩ | ⟨g, cap, cur, fz, rfl, hb, hg, _⟩
  · cases hk
  · cases hk
    exact ⟨_, _, hg⟩
end

/-- What the call has written leaves old blocks as they lay. -/
theorem Kept.app {w0 w w' : World} {base : Nat} {e : TypeId} {v : Value} {n : Nat} {xs : List Value} {S : Nat → Prop} (hk : Kept S w0 w) (hown : OwnM w base e v n xs) (hb : w0.heap.size ≤ base) (hg : w.grownBy w' v.ownBlock) : Kept S w0 w' :=
  hk.grown hg (fun k e hlt => by have := (hown.lt k e).1; omega)

theorem run_storeCells_atM (P : Program) (g o : Nat) (t : TypeId) (fz : Nat × Nat) : ∀ (vs : List Value) (i : Nat) (cur : Array Value) (w : World), w.heap[g]? = some (.cells cur t fz) → (fz.2 ≤ o ∨ cur.size ≤ fz.1) → o + i + vs.length ≤ cur.size → (∀ v ∈ vs, v.oneCell' = true) →
    (storeCells ⟨g, o, none⟩ vs i).run P w = .ok () (w.setRow g (cur.toList.take (o + i) ++ vs ++ cur.toList.drop (o + i + vs.length)).toArray)
  | [], i, cur, w, hg, _, _, _ => by
    simp only [storeCells, List.append_nil, List.length_nil, Nat.add_zero, List.take_append_drop, Array.toArray_toList]
    rw [setRow_self w g cur t fz hg]
    rfl
  | v :: rest, i, cur, w, hg, hfz, hl, h1 => by
    have hi : o + i < cur.size := by simp at hl; omega
    have hadd : (⟨g, o, none⟩ : Addr).add i = ⟨g, o + i, none⟩ := by unfold Addr.add; split <;> simp_all
    have hcell : w.cell? ⟨g, o + i, none⟩ = some cur[o + i] := by simp [World.cell?, hg, hi]
    have hfro : w.frozen? ⟨g, o + i, none⟩ = false := by
      obtain ⟨lo, hi'⟩ := fz
      simp only [World.frozen?, hg, Bool.and_eq_false_iff, decide_eq_false_iff_not]
      simp only at hfz
      omega
    have hst : (store ((⟨g, o, none⟩ : Addr).add i) v).run P w = .ok () (w.setRow g (cur.setIfInBounds (o + i) v)) := by
      rw [hadd, run_store P w _ v _ (h1 v (by simp)), hcell]
      simp [hfro, setCell_eq_setRow w g (o + i) cur t fz v hg]
    have ih := run_storeCells_atM P g o t fz rest (i + 1) (cur.setIfInBounds (o + i) v) (w.setRow g (cur.setIfInBounds (o + i) v)) (setRow_heap w g cur _ t _ hg) (by simpa using hfz) (by simp at hl ⊢; omega) (fun x hx => h1 x (by simp [hx]))
    simp only [storeCells, Sem.run_bind, hst, Result.andThen_ok, ih, setRow_setRow]
    congr 3
    have e := list_seg_step cur.toList (o + i) v rest (by simp at hl ⊢; omega)
    simpa [Array.toList_setIfInBounds, Nat.add_assoc] using e

section
variable {P : Program} (w : World)

theorem grownM (n cap : Nat) (e : TypeId) (base : Nat) (z : Value) (hz : z.cells.size = 1) (xs news : List Value) (hys : (xs ++ news).length = n) (hn : n ≤ maxLen) (hbase : base ≤ w.heap.size) (row : Option Nat) :
    OwnM (w.drew.alloc (.cells (xs.toArray ++ news.toArray ++ Builtin.zeroCells z.cells (grownCap w n cap e - n)) e)) base e (.slice (some ⟨w.heap.size, 0, none⟩) n (grownCap w n cap e)) n (xs ++ news) ∧ w.grownBy (w.drew.alloc (.cells (xs.toArray ++ news.toArray ++ Builtin.zeroCells z.cells (grownCap w n cap e - n)) e)) row := by
  have hge := grownCap_ge w n cap e
  have hcm2 : grownCap w n cap e ≤ maxLen := grownCap_le_maxLen w n cap e hn
  refine ⟨⟨hys, .inr ⟨w.heap.size, _, _, (0, 0), rfl, hbase, heap_alloc_new w.drew _, .inl (Nat.zero_le _), hge, hcm2, ?_, ?_⟩⟩, ⟨rfl, rfl, rfl, by simp, fun k hk _ => Go.heap_alloc_old w.drew _ hk⟩⟩
  · rw [List.length_append] at hys
    simp only [Array.size_append, List.size_toArray, size_zeroCells, hz]
    omega
  · simp only [Array.toList_append]
    rw [← hys]
    exact List.take_left

theorem run_append_M (base : Nat) (t ty e : TypeId) (i : TypeInfo) (z : Value) (bytes : Nat) (ht : P.underlying t = some (.slice e)) (hi : P.info? e = some i) (hz : i.zero = some z)
    (hsize : i.size = 1) (hby : i.bytes = bytes) (hzs : z.cells.size = 1)
    (v : Value) (n : Nat) (xs : List Value) (hown : OwnM w base e v n xs)
    (a : Addr) (m c : Nat) (news : List Value) (hl : news.length = m) (hnews : ∀ j u, news[j]? = some u → w.cell? (a.add j) = some u) (h1 : ∀ u ∈ news, u.oneCell' = true)
    (h63 : n + m ≤ maxLen) (hbytes : (n + m) * bytes ≤ 140737488355328) (hbase : base ≤ w.heap.size) :
    ∃ v' w', (Builtin.append_ #[t, t] ty #[v, .slice (some a) m c]).run P w = .ok v' w' ∧ OwnM w' base e v' (n + m) (xs ++ news) ∧ w.grownBy w' v.ownBlock := by
  rcases hown.2 with ⟨rfl, rfl⟩ | ⟨g, cap, cur, fz, rfl, hbg, hg, hfz, hnc, hcm, hcs, htake⟩
  · obtain ⟨v', w', r1, r2, r3, r4⟩ := run_append_own (P := P) w base t ty e i z 1 bytes ht hi hz hsize hby hzs (by decide) (.slice none 0 0) 0 xs ⟨by simpa using hown.1, .inl ⟨rfl, rfl⟩⟩ a m c news (by simpa using hl) hnews h1 h63 hbytes hbase
    exact ⟨v', w', r1, OwnM.of r2, r3⟩
  · have hsmall : n + m ≤ 9223372036854775807 := by simp only [maxLen] at h63; omega
    have hlen : (xs ++ news).length = n + m := by rw [List.length_append, hown.1, hl]
    by_cases hroom : n + m ≤ cap
    · have hf := run_firstCells_some (P := P) w i.size m a m c news (by rw [hl, hsize, Nat.mul_one]) hnews
      have hst := run_storeCells_atM P g (n * i.size) e fz news 0 cur w hg (by rw [hcs, hsize, Nat.mul_one]; exact hfz) (by rw [hsize]; omega) h1
      simp only [Nat.add_zero] at hst
      have hr : (Builtin.append_ #[t, t] ty #[.slice (some ⟨g, 0, none⟩) n cap, .slice (some a) m c]).run P w = .ok (.slice (some ⟨g, 0, none⟩) (n + m) cap) (w.setRow g (cur.toList.take n ++ news ++ cur.toList.drop (n + news.length)).toArray) := by
        have hr0 : (Builtin.append_ #[t, t] ty #[.slice (some ⟨g, 0, none⟩) n cap, .slice (some a) m c]).run P w = .ok (.slice (some ⟨g, 0, none⟩) (n + m) cap) (w.setRow g (cur.toList.take (n * i.size) ++ news ++ cur.toList.drop (n * i.size + news.length)).toArray) := by
          simp [Builtin.append_, run_underlying ht, sizeOf, typeInfo, hi, Builtin.lenOf, hroom, hf, Addr.add_lit, hst]
        rw [hsize, Nat.mul_one] at hr0
        exact hr0
      refine ⟨_, _, hr, ⟨hlen, .inr ⟨g, cap, _, fz, rfl, hbg, setRow_heap w g cur _ e _ hg, hfz.imp (fun h => by omega) (fun h => h), hroom, hcm, ?_, ?_⟩⟩, ⟨rfl, rfl, rfl, by simp, fun k _ hk => setRow_other w g k _ (fun e => hk (by simp [Value.ownBlock, e]))⟩⟩
      · simp only [List.size_toArray, List.length_append, List.length_take, List.length_drop, Array.length_toList]
        omega
      · rw [htake, ← hlen]
        exact List.take_left
    · have holds : ∀ j u, xs[j]? = some u → w.cell? ((⟨g, 0, none⟩ : Addr).add j) = some u := by
        obtain ⟨ad, e1, h⟩ := (OwnM.holds (cap := cap) hown).2 |> fun f => (Nat.eq_zero_or_pos n).elim (fun h0 => (⟨⟨g, 0, none⟩, rfl, fun j v hj => by
          have : xs = [] := List.eq_nil_of_length_eq_zero (by rw [hown.1, h0])
          subst this; cases hj⟩ : ∃ ad, some (⟨g, 0, none⟩ : Addr) = some ad ∧ ∀ j v, xs[j]? = some v → w.cell? (ad.add j) = some v)) (fun h0 => f h0)
        cases e1
        exact h
      have hr := run_append_grow (P := P) w t ty e i z ht hi hz ⟨g, 0, none⟩ n cap xs (by rw [hsize, Nat.mul_one]; exact hown.1) holds a m c news (by rw [hsize, Nat.mul_one]; exact hl) hnews (by omega) (by omega) (growslice_fits (by omega) (by rw [hby]; exact hbytes))
      obtain ⟨g1, g2⟩ := grownM w (n + m) cap e base z hzs xs news hlen h63 hbase (Value.ownBlock (.slice (some ⟨g, 0, none⟩) n cap))
      exact ⟨_, _, hr, g1, g2⟩

theorem run_append_stringM (base : Nat) (t u ty e : TypeId) (i : TypeInfo) (ht : P.underlying t = some (.slice e)) (hu : P.underlying u = some .string) (hi : P.info? e = some i) (hz : i.zero = some (.int .u8 0))
    (hsize : i.size = 1) (hby : i.bytes = 1)
    (v : Value) (n : Nat) (xs : List Value) (hown : OwnM w base e v n xs) (s : ByteArray)
    (h63 : n + s.size ≤ maxLen) (hbytes : n + s.size ≤ 140737488355328) (hbase : base ≤ w.heap.size) :
    ∃ v' w', (Builtin.append_ #[t, u] ty #[v, .string s]).run P w = .ok v' w' ∧ OwnM w' base e v' (n + s.size) (xs ++ strCells s) ∧ w.grownBy w' v.ownBlock := by
  rcases hown.2 with ⟨rfl, rfl⟩ | ⟨g, cap, cur, fz, rfl, hbg, hg, hfz, hnc, hcm, hcs, htake⟩
  · obtain ⟨v', w', h1, h2, h3, h4⟩ := run_append_own_string (P := P) w base t u ty e i ht hu hi hz hsize hby (.slice none 0 0) 0 xs ⟨by simpa using hown.1, .inl ⟨rfl, rfl⟩⟩ s h63 hbytes hbase
    exact ⟨v', w', h1, OwnM.of h2, h3⟩
  · have hsmall : n + s.size ≤ 9223372036854775807 := by simp only [maxLen] at h63; omega
    have hlen : (xs ++ strCells s).length = n + s.size := by rw [List.length_append, hown.1, strCells_length]
    by_cases hroom : n + s.size ≤ cap
    · have hf := run_firstCells_string (P := P) w 1 s
      have hst := run_storeCells_atM P g n e fz (strCells s) 0 cur w hg (by rw [hcs]; exact hfz) (by rw [strCells_length]; omega) (strCells_oneCell s)
      simp only [Nat.add_zero, strCells_length] at hst
      have hr : (Builtin.append_ #[t, u] ty #[.slice (some ⟨g, 0, none⟩) n cap, .string s]).run P w = .ok (.slice (some ⟨g, 0, none⟩) (n + s.size) cap) (w.setRow g (cur.toList.take n ++ strCells s ++ cur.toList.drop (n + s.size)).toArray) := by
        simp [Builtin.append_, run_underlying ht, run_underlying hu, sizeOf, typeInfo, hi, hsize, Builtin.lenOf, hroom, hf, Addr.add_lit, hst]
      refine ⟨_, _, hr, ⟨hlen, .inr ⟨g, cap, _, fz, rfl, hbg, setRow_heap w g cur _ e _ hg, hfz.imp (fun h => by omega) (fun h => h), hroom, hcm, ?_, ?_⟩⟩, ⟨rfl, rfl, rfl, by simp, fun k _ hk => setRow_other w g k _ (fun e => hk (by simp [Value.ownBlock, e]))⟩⟩
      · simp only [List.size_toArray, List.length_append, List.length_take, List.length_drop, Array.length_toList, strCells_length]
        omega
      · rw [htake, ← hlen]
        exact List.take_left
    · have holds : ∀ j u, xs[j]? = some u → w.cell? ((⟨g, 0, none⟩ : Addr).add j) = some u := by
        obtain ⟨ad, e1, h⟩ := (OwnM.holds (cap := cap) hown).2 |> fun f => (Nat.eq_zero_or_pos n).elim (fun h0 => (⟨⟨g, 0, none⟩, rfl, fun j v hj => by
          have : xs = [] := List.eq_nil_of_length_eq_zero (by rw [hown.1, h0])
          subst this; cases hj⟩ : ∃ ad, some (⟨g, 0, none⟩ : Addr) = some ad ∧ ∀ j v, xs[j]? = some v → w.cell? (ad.add j) = some v)) (fun h0 => f h0)
        cases e1
        exact h
      have hr := run_append_grow_string (P := P) w t u ty e i (.int .u8 0) ht hu hi hz ⟨g, 0, none⟩ n cap xs (by rw [hsize, Nat.mul_one]; exact hown.1) holds s (by omega) (by omega) (by rw [hby]; exact growslice_fits (by omega) (by omega))
      obtain ⟨g1, g2⟩ := grownM w (n + s.size) cap e base (.int .u8 0) rfl xs (strCells s) hlen h63 hbase (Value.ownBlock (.slice (some ⟨g, 0, none⟩) n cap))
      exact ⟨_, _, hr, g1, g2⟩

/-- 'append(s, x...)' of a slice whose cells are known, nil or not. -/
theorem wpList_append_M {ops : Array Oper} {rest : List Oper} {o : Oper} {a : Act} {Q : Exit → Act → World → Prop} (hgd : o.guard = none) (s x : Operand) (t : TypeId)
    (ho : o.op = .call { callee := .builtin .append, args := #[s, x], argTypes := #[t, t] })
    (base : Nat) (e : TypeId) (i : TypeInfo) (z : Value) (bytes : Nat) (ht : P.underlying t = some (.slice e)) (hi : P.info? e = some i) (hz : i.zero = some z)
    (hsize : i.size = 1) (hby : i.bytes = bytes) (hzs : z.cells.size = 1)
    (v : Value) (n : Nat) (xs : List Value) (hs : a.eval s = v) (hown : OwnM w base e v n xs)
    (ap : Option Addr) (m c : Nat) (news : List Value) (hx : a.eval x = .slice ap m c) (hH : Holds w ap m news) (hnil : ap = none → c = 0) (h1 : ∀ u ∈ news, u.oneCell' = true)
    (h63 : n + m ≤ maxLen) (hbytes : (n + m) * bytes ≤ 140737488355328) (hbase : base ≤ w.heap.size)
    (h : ∀ v' w', OwnM w' base e v' (n + m) (xs ++ news) → w.grownBy w' v.ownBlock → wpList P ops Q rest (a.put o.dst v') w') : wpList P ops Q (o :: rest) a w := by
  cases ap with
  | none =>
    have hm : m = 0 := by
      rcases Nat.eq_zero_or_pos m with h | h
      · exact h
      · obtain ⟨_, h, _⟩ := hH.2 h; cases h
    obtain rfl : c = 0 := hnil rfl
    subst hm
    obtain rfl : news = [] := List.eq_nil_of_length_eq_zero hH.1
    have hr : (Builtin.append_ #[t, t] o.type #[v, .slice none 0 0]).run P w = .ok v w := by
      rcases hown.2 with ⟨rfl, rfl⟩ | ⟨g, cap, cur, fz, rfl, hbg, hg, hfz, hnc, hcm, hcs, htake⟩
      · simp [Builtin.append_, run_underlying ht, sizeOf, typeInfo, hi, Builtin.lenOf, Builtin.firstCells]
      · simp [Builtin.append_, run_underlying ht, sizeOf, typeInfo, hi, Builtin.lenOf, Builtin.firstCells, hnc, storeCells]
    refine wpList_plain hgd fun K hK => ?_
    unfold Oper.wp execOp
    simp only [ho, resolve, invoke, builtin, Sem.run_bind, Sem.run_pure, Result.andThen_ok, List.map_toArray, List.map_cons, List.map_nil, hs, hx, hr]
    exact hK _ _ (h v w (by simpa using hown) (World.grownBy.refl _ _))
  | some ad =>
    refine wpList_plain hgd fun K hK => ?_
    have hnews : ∀ j u, news[j]? = some u → w.cell? (ad.add j) = some u := fun j u hj => by
      have : 0 < m := by rw [← hH.1]; exact Nat.lt_of_le_of_lt (Nat.zero_le j) (List.getElem?_eq_some_iff.1 hj).1
      obtain ⟨ad', e', hc⟩ := hH.2 this
      cases e'
      exact hc j u hj
    obtain ⟨v', w', hr, h2, h3⟩ := run_append_M (P := P) w base t o.type e i z bytes ht hi hz hsize hby hzs v n xs hown ad m c news hH.1 hnews h1 h63 hbytes hbase
    unfold Oper.wp execOp
    simp only [ho, resolve, invoke, builtin, Sem.run_bind, Sem.run_pure, Result.andThen_ok, List.map_toArray, List.map_cons, List.map_nil, hs, hx, hr]
    exact hK _ _ (h v' w' h2 h3)

/-- 'append(s, text...)'. -/
theorem wpList_append_strM {ops : Array Oper} {rest : List Oper} {o : Oper} {a : Act} {Q : Exit → Act → World → Prop} (hgd : o.guard = none) (sl x : Operand) (t u : TypeId)
    (ho : o.op = .call { callee := .builtin .append, args := #[sl, x], argTypes := #[t, u] })
    (base : Nat) (e : TypeId) (i : TypeInfo) (ht : P.underlying t = some (.slice e)) (hu : P.underlying u = some .string) (hi : P.info? e = some i) (hz : i.zero = some (.int .u8 0))
    (hsize : i.size = 1) (hby : i.bytes = 1)
    (v : Value) (n : Nat) (xs : List Value) (hs : a.eval sl = v) (hown : OwnM w base e v n xs) (s : ByteArray) (hx : a.eval x = .string s)
    (h63 : n + s.size ≤ maxLen) (hbytes : n + s.size ≤ 140737488355328) (hbase : base ≤ w.heap.size)
    (h : ∀ v' w', OwnM w' base e v' (n + s.size) (xs ++ strCells s) → w.grownBy w' v.ownBlock → wpList P ops Q rest (a.put o.dst v') w') : wpList P ops Q (o :: rest) a w := by
  refine wpList_plain hgd fun K hK => ?_
  obtain ⟨v', w', hr, h2, h3⟩ := run_append_stringM (P := P) w base t u o.type e i ht hu hi hz hsize hby v n xs hown s h63 hbytes hbase
  unfold Oper.wp execOp
  simp only [ho, resolve, invoke, builtin, Sem.run_bind, Sem.run_pure, Result.andThen_ok, List.map_toArray, List.map_cons, List.map_nil, hs, hx, hr]
  exact hK _ _ (h v' w' h2 h3)
end

/-- '[]byte(text)': the row is owned. -/
theorem bytesWorld_own (w : World) (e : TypeId) (s : ByteArray) (h : s.size ≤ maxLen) : OwnM (Lib.bytesWorld w e s) w.heap.size e (.slice (some ⟨w.heap.size, 0, none⟩) s.size (grownCap w s.size 0 e)) s.size (s.data.toList.map bv) := by
  have hge := grownCap_ge w s.size 0 e
  have hsz : s.data.toList.length = s.size := by rw [Array.length_toList]; rfl
  have hcs : (bytesCells w e s).size = grownCap w s.size 0 e := by
    have : s.data.size = s.size := rfl
    simp only [bytesCells, Array.size_append, Array.size_map, Array.size_replicate, this]; omega
  refine ⟨by rw [List.length_map, hsz], .inr ⟨_, _, _, _, rfl, Nat.le_refl _, Lib.bytesWorld_at_new w e s, .inr (by rw [hcs]; exact Nat.le_refl _), hge, grownCap_le_maxLen w s.size 0 e h, hcs, ?_⟩⟩
  simp only [bytesCells, Array.toList_append, Array.toList_map]
  rw [← hsz, List.take_append_of_le_length (by rw [List.length_map]; exact Nat.le_refl _), List.take_of_length_le (by rw [List.length_map]; exact Nat.le_refl _)]
  rfl

/-- '[]byte("constant")': the row is owned, and marked. -/
theorem const_own (w : World) (e : TypeId) (xs : List Value) (h : xs.length ≤ maxLen) : OwnM (w.alloc (.cells xs.toArray e (xs.length, xs.length + 1))) w.heap.size e (.slice (some ⟨w.heap.size, 0, none⟩) xs.length xs.length) xs.length xs :=
  ⟨rfl, .inr ⟨_, _, _, _, rfl, Nat.le_refl _, heap_alloc_new w _, .inr (Nat.le_refl _), Nat.le_refl _, h, by simp, by simp⟩⟩

theorem strCells_bv (s : ByteArray) : strCells s = s.data.toList.map bv := by
  unfold strCells
  rfl
end Go.Proofs.YtpekeilpdbdnnaaDoor
namespace Go.Proofs.YtpekeilpdbdnnaaDoor
section
variable {P : Program} {ops : Array Oper} {md : Region.Mode} {Q : Exit → Act → World → Prop} {Cl : World → Prop} {z : Nat}

/-- Whatever order is picked; every world on the way is of the class. -/
def wpAnyC (P : Program) (md : Region.Mode) (ops : Array Oper) (Q : Exit → Act → World → Prop) (Cl : World → Prop) (z : Nat) : Nat → Array Bool → Act → World → Prop
  | 0, listed, a, w => (listed.getD z false = false → Cl w) ∧ Region.ready md ops listed = [] ∧ Q .normal a w
  | f + 1, listed, a, w => (listed.getD z false = false → Cl w) ∧ (Region.ready md ops listed = [] → Q .normal a w) ∧
    ∀ i ∈ Region.ready md ops listed, wpOp P ops Q i (wpAnyC P md ops Q Cl z f (listed.setIfInBounds i true)) a w

theorem wpAnyC.any : ∀ {f : Nat} {listed : Array Bool} {a : Act} {w : World}, wpAnyC P md ops Q Cl z f listed a w → wpAny P md ops Q f listed a w
  | 0, _, _, _, h => h.2
  | _ + 1, _, _, _, h => ⟨h.2.1, fun i hi => wpOp_mono (fun _ _ h' => wpAnyC.any h') (h.2.2 i hi)⟩

theorem wpAnyC.cl {f : Nat} {listed : Array Bool} {a : Act} {w : World} (h : wpAnyC P md ops Q Cl z f listed a w) : listed.getD z false = false → Cl w := by
  cases f <;> exact h.1

/-- In every world of the class the operation yields v (or nothing, v being 'undef'), and leaves that world. -/
def stillV (P : Program) (w : World) (v : Value) : Result Next → Prop
  | .ok (.value u) w' => w' = w ∧ u = v
  | .ok .skip w' => w' = w ∧ v = undef
  | .ok (.enter f args) w' => w' = w ∧ Calls P f args w fun e w'' => e = .returned v ∧ w'' = w
  | _ => False

theorem stillV_value (P : Program) (w : World) (v u : Value) (w' : World) : stillV P w v (.ok (.value u) w') = (w' = w ∧ u = v) := rfl
theorem stillV_skip (P : Program) (w : World) (v : Value) (w' : World) : stillV P w v (.ok .skip w') = (w' = w ∧ v = undef) := rfl
theorem stillV_enter (P : Program) (w : World) (v : Value) (f : FuncId) (args : Array Value) (w' : World) : stillV P w v (.ok (.enter f args) w') = (w' = w ∧ Calls P f args w fun e w'' => e = .returned v ∧ w'' = w) := rfl

def FloatsIn (P : Program) (ops : Array Oper) (Cl : World → Prop) (o : Oper) (v : Value) (a : Act) : Prop :=
  (Region.wanted o (yielded ops a.tmps) = true ∧ ∀ w, Cl w → stillV P w v ((execOp a.eval o).run P w)) ∨
  (Region.wanted o (yielded ops a.tmps) = false ∧ v = undef)

theorem FloatsIn.wpOp {i : Nat} {o : Oper} {v : Value} {a : Act} (hi : ops[i]? = some o) (hy : FloatsIn P ops Cl o v a) {K : Act → World → Prop} {w : World} (hw : Cl w)
    (h : K (a.put o.dst v) w) : wpOp P ops Q i K a w := by
  unfold Go.wpOp
  simp only [hi]
  rcases hy with ⟨hwa, hv⟩ | ⟨hwa, rfl⟩
  · simp only [hwa, if_true]
    left
    have h1 := hv w hw
    unfold Oper.wp
    generalize (execOp a.eval o).run P w = r at *
    cases r with
    | ok x w' =>
      cases x <;> simp only [stillV] at h1 <;> simp only [Oper.upon]
      case value u => obtain ⟨rfl, rfl⟩ := h1; exact h
      case skip => obtain ⟨rfl, rfl⟩ := h1; exact h
      case enter f args =>
        obtain ⟨rfl, h1⟩ := h1
        exact h1.mono fun e w'' ⟨he, hw2⟩ => by subst he hw2; exact h
    | halt x w' => simp only [stillV] at h1
  · simp only [hwa, Bool.false_eq_true, if_false]; exact h

theorem FloatsIn.of_same {o : Oper} {v : Value} {a a' : Act} (hy : FloatsIn P ops Cl o v a) (he : execOp a'.eval o = execOp a.eval o)
    (hw : Region.wanted o (yielded ops a'.tmps) = Region.wanted o (yielded ops a.tmps)) : FloatsIn P ops Cl o v a' := by
  unfold FloatsIn at *
  rw [he, hw]
  exact hy

theorem wpOp_putC {j : Nat} {oi oj : Oper} {v : Value} (hj : ops[j]? = some oj) (hap : oi.apart ops oj = true)
    (hsi : ∀ cs b, oi.op ≠ .select cs b) (hsj : ∀ cs b, oj.op ≠ .select cs b)
    (hQ : ∀ c a w, Q (.panic c) (a.put oi.dst v) w → Q (.panic c) a w) {K : Act → World → Prop} {a : Act} {w : World}
    (hy : FloatsIn P ops Cl oi v a) (h : wpOp P ops Q j K (a.put oi.dst v) w) :
    wpOp P ops Q j (fun a' w' => FloatsIn P ops Cl oi v a' ∧ K (a'.put oi.dst v) w') a w := by
  obtain ⟨h1, h2, h3⟩ := Oper.apart_spec hap
  have keep : ∀ (a : Act), FloatsIn P ops Cl oi v a → ∀ u, FloatsIn P ops Cl oi v (a.put oj.dst u) := fun a hy u =>
    hy.of_same (execOp_put oi hsi a oj.dst u h3) (wanted_put oi a oj.dst u h3)
  have keepD : ∀ d, FloatsIn P ops Cl oi v { a with defers := d :: a.defers } := fun d => hy.of_same rfl rfl
  unfold wpOp at *
  simp only [hj] at *
  rw [wanted_put oj a oi.dst v h1] at h
  split
  · rename_i hw
    simp only [hw, if_true] at h
    rcases h with h | ⟨hasks, hlets⟩
    case inr => exact .inr ⟨by unfold Oper.asks at *; rw [execOp_put oj hsj a oi.dst v h1] at hasks; exact hasks, hlets⟩
    refine .inl ?_
    unfold Oper.wp at *
    rw [execOp_put oj hsj a oi.dst v h1] at h
    generalize (execOp a.eval oj).run P w = r at *
    cases r with
    | ok n w' =>
      cases n <;> simp only [Oper.upon] at h ⊢
      case value u => exact ⟨keep a hy u, by rw [← Act.put_comm a v u h2]; exact h⟩
      case skip => exact ⟨keep a hy _, by rw [← Act.put_comm a v undef h2]; exact h⟩
      case defer d =>
        refine ⟨keep _ (keepD d) _, ?_⟩
        rw [← Act.put_comm _ v undef h2, ← Act.put_defers]
        exact h
      case enter f args =>
        refine Calls.mono h fun e w'' he => ?_
        cases e with
        | returned u => exact ⟨keep a hy u, by rw [← Act.put_comm a v u h2]; exact he⟩
        | panicked c => exact hQ _ _ _ he
        | outgrown => exact he
      case row row args => exact Rows.mono h fun u w'' he => ⟨keep a hy u, by rw [← Act.put_comm a v u h2]; exact he⟩
    | halt x w' =>
      cases x <;> simp only [Oper.upon] at h ⊢
      case panic u => exact hQ _ _ _ h
  · rename_i hw
    simp only [hw] at h
    exact ⟨keep a hy _, by rw [← Act.put_comm a v undef h2]; exact h⟩

/-- A floating operation may be taken first (behind operation z the class is asked no more: z waits for whoever floats). -/
theorem wpAnyC_first {i : Nat} {oi : Oper} {v : Value} (hi : ops[i]? = some oi) (hsel : ∀ (j : Nat) (o : Oper) cs b, ops[j]? = some o → o.op ≠ .select cs b)
    (hQ : ∀ c a w, Q (.panic c) (a.put oi.dst v) w → Q (.panic c) a w) (hz : ops.size ≤ z ∨ Region.waitsFor md ops z i = true) :
    ∀ (fuel : Nat) (listed : Array Bool) (a : Act) (w : World), Closed md ops listed → listed.size = ops.size → Cl w →
      (∀ j oj, ops[j]? = some oj → j ≠ i → listed.getD j true = false → (∀ e ∈ oj.after, Region.binds md e = true → e.on ≠ i) → oi.apart ops oj = true) →
      i ∈ Region.ready md ops listed → FloatsIn P ops Cl oi v a →
      wpAnyC P md ops Q Cl z fuel (listed.setIfInBounds i true) (a.put oi.dst v) w → wpAnyC P md ops Q Cl z (fuel + 1) listed a w := by
  intro fuel
  induction fuel with
  | zero =>
    intro listed a w _ _ hcw _ hr hy H
    refine ⟨fun _ => hcw, fun h => (by rw [h] at hr; cases hr), fun j hj => ?_⟩
    by_cases hji : j = i
    · subst hji; exact hy.wpOp hi hcw H
    · have := ready_mono hj hji
      rw [H.2.1] at this
      cases this
  | succ fuel ih =>
    intro listed a w hcl hsz hcw hfree hr hy H
    refine ⟨fun _ => hcw, fun h => (by rw [h] at hr; cases hr), fun j hj => ?_⟩
    by_cases hji : j = i
    · subst hji; exact hy.wpOp hi hcw H
    · have h1 := H.2.2 j (ready_mono hj hji)
      obtain ⟨hjun, oj, hoj, hall⟩ := mem_ready.1 hj
      have h0 := (mem_ready.1 hr).1
      have hnot : ∀ e ∈ oj.after, Region.binds md e = true → e.on ≠ i := fun e he hb heq => by
        have h1 := hall e he hb
        rw [heq, getD_both h0] at h1
        cases h1
      have hzu : ((listed.setIfInBounds i true).setIfInBounds j true).getD z false = false := by
        rcases hz with hz | hz
        · have : ((listed.setIfInBounds i true).setIfInBounds j true).size ≤ z := by simp [hsz]; exact hz
          simp [Array.getElem?_eq_none this]
        · obtain ⟨oz, hoz, e, he, hb, hon⟩ := Region.waitsFor_spec hz
          have hzj : j ≠ z := fun e' => by
            subst e'
            have : oj = oz := Option.some.inj (hoj.symm.trans hoz)
            subst this
            exact hnot e he hb hon
          have hzi : i ≠ z := fun e' => by
            subst e'
            have := (mem_ready.1 hr).2
            obtain ⟨oi', hoi', hall'⟩ := this
            have : oi' = oz := Option.some.inj (hoi'.symm.trans hoz)
            subst this
            have h1 := hall' e he hb
            rw [hon, getD_both h0] at h1
            cases h1
          rw [getD_set_ne false hzj, getD_set_ne false hzi]
          cases hl : listed.getD z false with
          | false => rfl
          | true =>
            have h1 := hcl z oz hoz hl e he hb
            rw [hon, getD_both h0] at h1
            cases h1
      have h2 := wpOp_putC hoj (hfree j oj hoj hji hjun hnot) (fun cs b => hsel i oi cs b hi) (fun cs b => hsel j oj cs b hoj) hQ hy h1
      have hfree' : ∀ k ok, ops[k]? = some ok → k ≠ i → (listed.setIfInBounds j true).getD k true = false →
          (∀ e ∈ ok.after, Region.binds md e = true → e.on ≠ i) → oi.apart ops ok = true := fun k ok hk hki hun hno => by
        refine hfree k ok hk hki ?_ hno
        by_cases hjk : j = k
        · subst hjk; exact hjun
        · rw [getD_set_ne true hjk] at hun; exact hun
      refine wpOp_mono (fun a' w' h3 => ih (listed.setIfInBounds j true) a' w' (closed_set hcl hj) (by simpa using hsz) (wpAnyC.cl h3.2 hzu) hfree' (ready_mono hr (Ne.symm hji)) h3.1 ?_) h2
      rw [Array.setIfInBounds_comm _ _ hji]
      exact h3.2

theorem unlisted_before {listed : Array Bool} {i z : Nat} (h : (listed.setIfInBounds i true).getD z false = false) : listed.getD z false = false := by
  cases hl : listed.getD z false with
  | false => rfl
  | true => rw [getD_set_true hl] at h; cases h

theorem marks_false {z : Nat} : ∀ (H : List Nat) (listed : Array Bool), (marks H listed).getD z false = false → listed.getD z false = false
  | [], _, h => h
  | _ :: H, _, h => unlisted_before (marks_false H _ h)

theorem marks_size : ∀ (H : List Nat) (listed : Array Bool), (marks H listed).size = listed.size
  | [], _ => rfl
  | i :: H, listed => by rw [marks, marks_size H]; simp

theorem wpAnyC_of_headH {C : World → Prop} {H : List Nat} {g : Nat} {L : Array Bool → Act → Prop} (fl : Bool) (hC : fl = false → ∀ w, C w → Cl w) (hL : ∀ listed a w, C w → L listed a → wpAnyC P md ops Q Cl z g listed a w) :
    ∀ (f : Nat) (listed : Array Bool) (a : Act) (w : World), (listed.getD z false = false → fl = false) → C w → wpAnyH P md ops C H L f listed a → wpAnyC P md ops Q Cl z (f + g) listed a w
  | 0, listed, a, w, _, hw, h => by rw [Nat.zero_add]; exact hL _ _ _ hw h
  | f + 1, listed, a, w, hfl, hw, h => by
    rw [show f + 1 + g = (f + g) + 1 by omega]
    exact ⟨fun hz => hC (hfl hz) w hw, fun h0 => absurd h0 h.1, fun i hi => wpOp_of_qOp hw (fun a' w' hw' h' => wpAnyC_of_headH fl hC hL f _ a' w' (fun hz => hfl (unlisted_before hz)) hw' h') (h.2 i hi).2⟩

theorem wpAnyC_of_quiet {C : World → Prop} {Q0 : Act → Prop} (fl : Bool) (hC : fl = false → ∀ w, C w → Cl w) (hQ : ∀ a w, C w → Q0 a → Q .normal a w) : ∀ (fuel : Nat) (listed : Array Bool) (a : Act) (w : World), (listed.getD z false = false → fl = false) → C w →
    wpAnyQ P md ops C Q0 fuel listed a → wpAnyC P md ops Q Cl z fuel listed a w
  | 0, _, _, w, hfl, hw, h => ⟨fun hz => hC (hfl hz) w hw, h.1, hQ _ _ hw h.2⟩
  | fuel + 1, _, _, w, hfl, hw, h => ⟨fun hz => hC (hfl hz) w hw, fun h0 => hQ _ _ hw (h.1 h0), fun i hi => wpOp_of_qOp hw (fun a' w' hw' => wpAnyC_of_quiet fl hC hQ fuel _ a' w' (fun hz => hfl (unlisted_before hz)) hw') (h.2 i hi)⟩

/-- A step of a plan: quiet operations and a barrier; or one that floats. -/
inductive Step where
  | seg (H : List Nat) (b : Nat)
  | flt (i : Nat)

def planBC (md : Region.Mode) (ops : Array Oper) (z : Nat) : List Step → List Nat → Array Bool → Bool
  | [], Hf, listed => headB md ops Hf listed && (Region.ready md ops (marks Hf listed)).isEmpty
  | .flt i :: rest, Hf, listed => (Region.ready md ops listed).contains i && Region.free md ops listed i && (decide (ops.size ≤ z) || Region.waitsFor md ops z i) && planBC md ops z rest Hf (listed.setIfInBounds i true)
  | .seg H b :: rest, Hf, listed =>
    headB md ops H listed && decide (Region.ready md ops (marks H listed) = [b]) && !H.contains b &&
    sinkChain md ops b H && sinkRest md ops (fun t => !listed.getD t true && !H.contains t) b &&
    planBC md ops z rest Hf ((marks H listed).setIfInBounds b true)

def planFuelC : List Step → List Nat → Nat
  | [], Hf => Hf.length
  | .flt _ :: rest, Hf => planFuelC rest Hf + 1
  | .seg H _ :: rest, Hf => H.length + (1 + planFuelC rest Hf)

def planOkC (ops : Array Oper) (z : Nat) (plan : List Step) (Hf : List Nat) : Bool :=
  Region.noSelect ops && decide (planFuelC plan Hf = ops.size) && planBC .any ops z plan Hf (Array.replicate ops.size false)
end

section
variable {P : Program} {l : List Oper} {md : Region.Mode} {Q : Exit → Act → World → Prop} {Cl : World → Prop} {z : Nat}

/-- A floating operation: its one value. -/
def wpFloat (P : Program) (ops : Array Oper) (Cl : World → Prop) (K : Act → Prop) : List Oper → Act → Prop
  | [], a => K a
  | o :: _, a => ∃ v, (Region.wanted o (yielded ops a.tmps) = true → ∀ w, Cl w → stillV P w v ((execOp a.eval o).run P w)) ∧ (Region.wanted o (yielded ops a.tmps) = false → v = undef) ∧ K (a.put o.dst v)

theorem wpFloat_step {ops : Array Oper} {K : Act → Prop} {o : Oper} {rest : List Oper} {a : Act} (v : Value) (hg : o.guard = none) (h : ∀ w, Cl w → stillV P w v ((execOp a.eval o).run P w)) (hk : K (a.put o.dst v)) : wpFloat P ops Cl K (o :: rest) a :=
  ⟨v, fun _ => h, fun hw => by simp [Region.wanted, hg] at hw, hk⟩

def wpPlanC (P : Program) (l : List Oper) (Q : Exit → Act → World → Prop) (Cl : World → Prop) (z : Nat) : List Step → List Nat → Act → World → Prop
  | [], [], a, w => Q .normal a w
  | [], i :: Hf, a, w => wpQuiet P l.toArray (fun w' => ∃ n, w' = w.drewN n) (fun a' => ∀ w', (∃ n, w' = w.drewN n) → Q .normal a' w') (pick l (i :: Hf)) a
  | .flt i :: rest, Hf, a, w => wpFloat P l.toArray Cl (fun a' => wpPlanC P l Q Cl z rest Hf a' w) (pick l [i]) a
  | .seg [] b :: rest, Hf, a, w => wpList P l.toArray (Exit.then (fun a w => Halt ((b = z ∨ Cl w) ∧ wpPlanC P l Q Cl z rest Hf a w) () () () () () ()) Q) (pick l [b]) a w
  | .seg (i :: H) b :: rest, Hf, a, w => wpQuiet P l.toArray (fun w' => ∃ n, w' = w.drewN n)
      (fun a' => ∀ w', (∃ n, w' = w.drewN n) → wpList P l.toArray (Exit.then (fun a w => Halt ((b = z ∨ Cl w) ∧ wpPlanC P l Q Cl z rest Hf a w) () () () () () ()) Q) (pick l [b]) a' w') (pick l (i :: H)) a

theorem planC_flt {i : Nat} {rest : List Step} {Hf : List Nat} {a : Act} {w : World} {o : Oper} (ho : l[i]? = some o) (hg : o.guard = none)
    (h : ∃ v, (∀ w, Cl w → stillV P w v ((execOp a.eval o).run P w)) ∧ wpPlanC P l Q Cl z rest Hf (a.put o.dst v) w) : wpPlanC P l Q Cl z (.flt i :: rest) Hf a w := by
  obtain ⟨v, h, hk⟩ := h
  rw [wpPlanC, pick_one ho]
  exact wpFloat_step v hg h hk

theorem put_defers (a : Act) (dst : Option Tmp) (v : Value) : (a.put dst v).defers = a.defers := by cases dst <;> rfl

theorem wpAnyC_plan (hsel : Region.noSelect l.toArray = true) (hQ : ∀ c a w dst v, Q (.panic c) (a.put dst v) w → Q (.panic c) a w) (hdr : ∀ w n, Cl w → Cl (w.drewN n)) :
    ∀ (plan : List Step) (Hf : List Nat) (listed : Array Bool) (a : Act) (w : World),
    Closed md l.toArray listed → listed.size = l.toArray.size → planBC md l.toArray z plan Hf listed = true → (listed.getD z false = false → Cl w) → wpPlanC P l Q Cl z plan Hf a w → wpAnyC P md l.toArray Q Cl z (planFuelC plan Hf) listed a w
  | [], [], listed, a, w, _, _, hB, hcw, h => by
    simp only [planBC, headB, marks, Bool.true_and, List.isEmpty_iff] at hB
    exact ⟨hcw, hB, h⟩
  | [], i :: Hf, listed, a, w, _, _, hB, hcw, h => by
    simp only [planBC, Bool.and_eq_true, List.isEmpty_iff] at hB
    exact wpAnyC_of_quiet (C := fun w' => ∃ n, w' = w.drewN n) (Q0 := fun a' => ∀ w', (∃ n, w' = w.drewN n) → Q .normal a' w') (listed.getD z false) (fun hz w' ⟨n, e⟩ => e ▸ hdr w n (hcw hz)) (fun _ w' hw' h => h w' hw') _ _ _ _ (fun h => h) ⟨0, rfl⟩
      (wpAnyQ_list (C := fun w' => ∃ n, w' = w.drewN n) hsel (i :: Hf) listed a hB.1 hB.2 h)
  | .flt i :: rest, Hf, listed, a, w, hcl, hsz, hB, hcw, h => by
    simp only [planBC, Bool.and_eq_true, Bool.or_eq_true, decide_eq_true_eq] at hB
    obtain ⟨⟨⟨hr, hf⟩, hz⟩, hB2⟩ := hB
    have hr' : i ∈ Region.ready md l.toArray listed := by simpa using hr
    obtain ⟨h0, oi, hoi, hall⟩ := mem_ready.1 hr'
    have hoi' : l[i]? = some oi := by simpa using hoi
    simp only [wpPlanC, pick_one hoi', wpFloat] at h
    obtain ⟨v, h1, h2, h3⟩ := h
    have hzl : listed.getD z false = false := by
      rcases hz with hz | hz
      · simp [Array.getElem?_eq_none (show listed.size ≤ z by omega)]
      · obtain ⟨oz, hoz, e, he, hb, hon⟩ := Region.waitsFor_spec hz
        cases hl : listed.getD z false with
        | false => rfl
        | true =>
          have h4 := hcl z oz hoz hl e he hb
          rw [hon, getD_both h0] at h4
          cases h4
    refine wpAnyC_first hoi (Region.noSelect_spec hsel) (fun c a w => hQ c a w _ _) hz _ listed a w hcl hsz (hcw hzl) (Region.free_spec hoi hf) hr' ?_
      (wpAnyC_plan hsel hQ hdr rest Hf _ _ w (closed_set hcl hr') (by simpa using hsz) hB2 (fun _ => hcw hzl) h3)
    by_cases hwa : Region.wanted oi (yielded l.toArray a.tmps) = true
    · exact .inl ⟨hwa, h1 hwa⟩
    · have hwa' : Region.wanted oi (yielded l.toArray a.tmps) = false := by simpa using hwa
      exact .inr ⟨hwa', h2 hwa'⟩
  | .seg H b :: rest, Hf, listed, a, w, hcl, hsz, hB, hcw, h => by
    simp only [planBC, Bool.and_eq_true, decide_eq_true_eq, Bool.not_eq_true'] at hB
    obtain ⟨⟨⟨⟨⟨hB1, hr⟩, hbH⟩, hc⟩, hs⟩, hB2⟩ := hB
    have hbH' : b ∉ H := by simpa using hbH
    have hbr : b ∈ Region.ready md l.toArray (marks H listed) := by rw [hr]; simp
    obtain ⟨_, ob, hob, _⟩ := mem_ready.1 hbr
    have hob' : l[b]? = some ob := by simpa using hob
    have hms : (marks H listed).size = l.toArray.size := (marks_size H listed).trans hsz
    have hblt : b < l.toArray.size := (Array.getElem?_eq_some_iff.1 hob).1
    have step : ∀ (a' : Act) (w' : World), ((marks H listed).getD z false = false → Cl w') → wpList P l.toArray (Exit.then (fun a w => Halt ((b = z ∨ Cl w) ∧ wpPlanC P l Q Cl z rest Hf a w) () () () () () ()) Q) (pick l [b]) a' w' → wpAnyC P md l.toArray Q Cl z (1 + planFuelC rest Hf) (marks H listed) a' w' := by
      intro a' w' hcw' h'
      rw [pick_one hob'] at h'
      rw [Nat.add_comm]
      refine ⟨hcw', fun h0 => (by rw [hr] at h0; cases h0), fun i hi => ?_⟩
      rw [hr] at hi
      have : i = b := by simpa using hi
      subst this
      refine wpOp_mono (fun a'' w'' h'' => wpAnyC_plan hsel hQ hdr rest Hf _ a'' w'' (closed_set (closed_head hcl hB1) hbr) (by simpa using hms) hB2 (fun hzf => ?_) h''.2) (wpList_pick hob h')
      rcases h''.1 with e | hc'
      · subst e
        simp [show i < (marks H listed).size by omega] at hzf
      · exact hc'
    cases H with
    | nil =>
      rw [planFuelC, List.length_nil, Nat.zero_add]
      exact step a w hcw h
    | cons i H =>
      refine wpAnyC_of_headH (C := fun w' => ∃ n, w' = w.drewN n) (H := i :: H) (L := fun listed' a' => listed' = marks (i :: H) listed ∧ ∀ w', (∃ n, w' = w.drewN n) → wpList P l.toArray (Exit.then (fun a w => Halt ((b = z ∨ Cl w) ∧ wpPlanC P l Q Cl z rest Hf a w) () () () () () ()) Q) (pick l [b]) a' w')
        (listed.getD z false) (fun hz w' ⟨n, e⟩ => e ▸ hdr w n (hcw hz)) (fun listed' a' w' hw' hL => by
          obtain ⟨rfl, hL⟩ := hL
          refine step a' w' (fun hzf => ?_) (hL w' hw')
          obtain ⟨n, rfl⟩ := hw'
          exact hdr w n (hcw (marks_false _ _ hzf))) _ _ _ _ (fun h => h) ⟨0, rfl⟩ ?_
      exact head_then hsel hcl hB1 hr hbH' hc hs h

/-- A region that draws its order, by a plan in which some float: asked in the world behind the draw. -/
theorem wp_planC {id : Nat} {a : Act} {w : World} (Cl : World → Prop) (z : Nat) (plan : List Step) (Hf : List Nat) (hm : P.follows .mixedOrders = true) (hB : planOkC l.toArray z plan Hf = true)
    (hQ : ∀ c a w dst v, Q (.panic c) (a.put dst v) w → Q (.panic c) a w) (hdr : ∀ w n, Cl w → Cl (w.drewN n)) (hcw : Cl w)
    (h : ∀ n, wpPlanC P l Q Cl z plan Hf a (w.drewN n)) : (Code.region id l.toArray true).wp P Q a w := by
  simp only [planOkC, Bool.and_eq_true, decide_eq_true_eq] at hB
  have h2 := wpAnyC_plan (md := .any) hB.1.1 hQ hdr plan Hf _ a (w.drewN 1) closed_start (by simp) hB.2 (fun _ => hdr w 1 hcw) (h 1)
  rw [hB.1.2] at h2
  exact wp_region_any hm h2.any
end
end Go.Proofs.YtpekeilpdbdnnaaDoor
