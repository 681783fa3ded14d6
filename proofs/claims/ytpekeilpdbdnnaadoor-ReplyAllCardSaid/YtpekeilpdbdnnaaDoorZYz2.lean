/- Merged: All replies of some bytes: plain words; All replies of some bytes, by the program and by the document. -/
import Derived.Test.YtpekeilpdbdnnaaDoorZYq8
set_option linter.all false
namespace Go.Proofs.YtpekeilpdbdnnaaDoor

theorem mustB_len {c : UInt8} {l r : Bs} (h : mustB c l = .ok r) : r.length ≤ l.length := by
  cases l with
  | nil => cases h
  | cons d t =>
    rw [mustB] at h
    split at h
    · cases h; simp
    · cases h
theorem endB_len {l r : Bs} (h : endB l = .ok r) : r.length ≤ l.length := by
  unfold endB at h
  cases h1 : mustB 13 l with
  | error e => rw [h1] at h; cases h
  | ok t =>
    rw [h1] at h
    have := mustB_len h1
    have := mustB_len (show mustB 10 t = .ok r from h)
    omega
theorem lineO_shr : ∀ (l : Bs) (k : Nat) {s q : Bs}, lineO k l = .ok (s, q) → q.length ≤ l.length
  | [], k, s, q, h => by rw [lineO] at h; cases h
  | c :: r, k, s, q, h => by
    rw [lineO] at h
    split at h
    · cases h; exact Nat.le_refl _
    · split at h
      · cases h
      · cases h1 : lineO (k - 1) r with
        | error e => rw [h1] at h; cases h
        | ok v =>
          obtain ⟨s', t⟩ := v
          rw [h1] at h
          cases h
          have := lineO_shr r (k - 1) h1
          simp only [List.length_cons]
          omega
theorem lineE_shr {l s q : Bs} (h : lineE l = .ok (s, q)) : q.length ≤ l.length := by
  unfold lineE at h
  cases h1 : lineO 65536 l with
  | error e => rw [h1] at h; cases h
  | ok v =>
    obtain ⟨s', t⟩ := v
    rw [h1] at h
    simp only at h
    cases h2 : endB t with
    | error e => rw [h2] at h; cases h
    | ok t2 =>
      rw [h2] at h
      cases h
      have := lineO_shr l _ h1
      have := endB_len h2
      omega
theorem numbB_shr {most u : Nat} {l q : Bs} (h : numbB most l = .ok (u, q)) : q.length ≤ l.length := (digB_le l 0 true (Nat.zero_le _) h).2.2
theorem cntB_shr {most : Nat} {l q : Bs} {o : Option Nat} (h : cntB most l = .ok (o, q)) : q.length ≤ l.length := by
  cases l with
  | nil => cases h
  | cons c r =>
    rw [cntB] at h
    by_cases h45 : c = 45
    · rw [if_pos h45] at h
      cases h49 : mustB 49 r with
      | error e => rw [h49] at h; cases h
      | ok t =>
        rw [h49] at h
        cases h
        have := mustB_len h49
        simp only [List.length_cons]
        omega
    · rw [if_neg h45] at h
      cases hn : numbB most (c :: r) with
      | error e => rw [hn] at h; cases h
      | ok v =>
        obtain ⟨n', t⟩ := v
        rw [hn] at h
        cases h
        exact numbB_shr hn
theorem countB_shr {most : Nat} {l q : Bs} {o : Option Nat} (h : countB most l = .ok (o, q)) : q.length ≤ l.length := by
  rw [count_cntE] at h
  unfold cntE at h
  cases h1 : cntB most l with
  | error e => rw [h1] at h; cases h
  | ok v =>
    obtain ⟨o', t⟩ := v
    rw [h1] at h
    simp only at h
    cases h2 : endB t with
    | error e => rw [h2] at h; cases h
    | ok t2 =>
      rw [h2] at h
      cases h
      have := cntB_shr h1
      have := endB_len h2
      omega
theorem integerB_shr {l q : Bs} {n : Int} (h : integerB l = .ok (n, q)) : q.length ≤ l.length := by
  unfold integerB at h
  cases l with
  | nil => cases h
  | cons c r =>
    simp only [nextB] at h
    by_cases h45 : c = 45
    · simp only [if_pos h45, List.drop_succ_cons, List.drop_zero] at h
      cases r with
      | nil => cases h
      | cons d r2 =>
        simp only at h
        by_cases h48 : d = 48
        · simp only [if_pos h48] at h; cases h
        · simp only [if_neg h48] at h
          cases h1 : numbB 9223372036854775808 (d :: r2) with
          | error e => rw [h1] at h; cases h
          | ok v =>
            obtain ⟨u, t⟩ := v
            rw [h1] at h
            cases h
            have := numbB_shr h1
            simp only [List.length_cons] at this ⊢
            omega
    · simp only [if_neg h45] at h
      cases h1 : numbB 9223372036854775807 (c :: r) with
      | error e => rw [h1] at h; cases h
      | ok v =>
        obtain ⟨u, t⟩ := v
        rw [h1] at h
        cases h
        exact numbB_shr h1
theorem bulkE_shr {l q : Bs} {x : Rep} (h : bulkE l = .ok (x, q)) : q.length ≤ l.length := by
  unfold bulkE at h
  cases h1 : countB 65536 l with
  | error e => rw [h1] at h; cases h
  | ok v =>
    obtain ⟨o, t⟩ := v
    have := countB_shr h1
    rw [h1] at h
    cases o with
    | none => cases h; exact this
    | some n =>
      simp only at h
      split at h
      · cases h
      · cases h2 : endB (t.drop n) with
        | error e => rw [h2] at h; cases h
        | ok t2 =>
          rw [h2] at h
          cases h
          have := endB_len h2
          rw [List.length_drop] at this
          omega
theorem itemsB_shr {f : Bs → Except Flt (Rep × Bs)} (hf : ∀ l x q, f l = .ok (x, q) → q.length ≤ l.length) : ∀ (n : Nat) (l : Bs) {L : List Rep} {q : Bs}, itemsB f n l = .ok (L, q) → q.length ≤ l.length
  | 0, l, L, q, h => by cases h; exact Nat.le_refl _
  | n + 1, l, L, q, h => by
    rw [itemsB] at h
    cases h1 : f l with
    | error e => rw [h1] at h; cases h
    | ok v =>
      obtain ⟨x, t⟩ := v
      rw [h1] at h
      simp only at h
      cases h2 : itemsB f n t with
      | error e => rw [h2] at h; cases h
      | ok v =>
        obtain ⟨L', t2⟩ := v
        rw [h2] at h
        cases h
        have := hf _ _ _ h1
        have := itemsB_shr hf n t h2
        omega
theorem repX_shr {arr : Bs → Except Flt (Rep × Bs)} (ha : ∀ l x q, arr l = .ok (x, q) → q.length ≤ l.length) {l q : Bs} {x : Rep} (h : repX arr l = .ok (x, q)) : q.length < l.length := by
  cases l with
  | nil => cases h
  | cons c t =>
    rw [repX_cons] at h
    have key : q.length ≤ t.length := by
      split at h
      · unfold andB at h
        cases h1 : lineE t with
        | error e => rw [h1] at h; cases h
        | ok v => obtain ⟨s, r⟩ := v; rw [h1] at h; cases h; exact lineE_shr h1
      · split at h
        · unfold andB at h
          cases h1 : lineE t with
          | error e => rw [h1] at h; cases h
          | ok v => obtain ⟨s, r⟩ := v; rw [h1] at h; cases h; exact lineE_shr h1
        · split at h
          · unfold andB unitB at h
            cases h1 : integerB t with
            | error e => rw [h1] at h; cases h
            | ok v =>
              obtain ⟨n, r⟩ := v
              rw [h1] at h
              simp only at h
              cases h2 : endB r with
              | error e => rw [h2] at h; cases h
              | ok z =>
                rw [h2] at h
                cases h
                have := integerB_shr h1
                have := endB_len h2
                omega
          · split at h
            · exact bulkE_shr h
            · split at h
              · exact ha _ _ _ h
              · cases h
    simp only [List.length_cons]
    omega
theorem arr0_shr (l : Bs) (x : Rep) (q : Bs) (h : arr0 l = .ok (x, q)) : q.length ≤ l.length := by
  unfold arr0 andB unitB at h
  cases h1 : mustB 45 l with
  | error e => rw [h1] at h; cases h
  | ok r1 =>
    rw [h1] at h
    simp only at h
    cases h2 : mustB 49 r1 with
    | error e => rw [h2] at h; cases h
    | ok r2 =>
      rw [h2] at h
      simp only at h
      cases h3 : endB r2 with
      | error e => rw [h3] at h; cases h
      | ok r3 =>
        rw [h3] at h
        cases h
        have := mustB_len h1
        have := mustB_len h2
        have := endB_len h3
        omega
theorem repE_shr : ∀ (k : Nat) {l q : Bs} {x : Rep}, repE k l = .ok (x, q) → q.length < l.length
  | 0, l, q, x, h => by
    rw [repX_eq (k := 0) (arr := arr0) (fun t => repE0 t)] at h
    exact repX_shr arr0_shr h
  | k + 1, l, q, x, h => by
    rw [repX_eq (k := k + 1) (arr := arrS k) (fun t => repES k t)] at h
    refine repX_shr (fun l x q h => ?_) h
    unfold arrS andB at h
    cases h1 : countB 131072 l with
    | error e => rw [h1] at h; cases h
    | ok v =>
      obtain ⟨o, t⟩ := v
      have := countB_shr h1
      rw [h1] at h
      cases o with
      | none => cases h; exact this
      | some n =>
        simp only at h
        cases h2 : itemsB (repE k) n t with
        | error e => rw [h2] at h; cases h
        | ok v =>
          obtain ⟨L, t2⟩ := v
          rw [h2] at h
          cases h
          have := itemsB_shr (fun l x q h => Nat.le_of_lt (repE_shr k h)) n t h2
          omega
theorem decP_cases (b : Bs) : ((decP b).2.2 = 0 ∧ 1 ≤ (decP b).2.1 ∧ (decP b).2.1 ≤ b.length) ∨ ((decP b).2.2 = 31 ∧ (decP b).2.1 ≤ b.length) ∨ ((decP b).2.2 = 30 ∧ (decP b).2.1 ≤ b.length) := by
  unfold decP
  cases h : repE 8 b with
  | ok v =>
    obtain ⟨x, r⟩ := v
    have := repE_shr 8 h
    exact .inl ⟨rfl, by simp only; omega, by simp only; omega⟩
  | error f =>
    obtain ⟨m, s⟩ := f
    cases s with
    | true => exact .inr (.inl ⟨rfl, Nat.sub_le _ _⟩)
    | false => exact .inr (.inr ⟨rfl, Nat.sub_le _ _⟩)

/-- All replies of some bytes, how many bytes they are, what is wrong behind them. -/
def allF : Nat → Bs → List Rep × Nat × Int
  | 0, _ => ([], 0, 0)
  | m + 1, b => if (decP b).2.2 = 0 then ((decP b).1 :: (allF m (b.drop (decP b).2.1)).1, (decP b).2.1 + (allF m (b.drop (decP b).2.1)).2.1, (allF m (b.drop (decP b).2.1)).2.2)
    else if (decP b).2.2 = 31 then ([], 0, 0) else ([], (decP b).2.1, (decP b).2.2)
def allB (b : Bs) : List Rep × Nat × Int := allF (b.length + 1) b
def mapA (D : List Rep) (k : Nat) (x : List Rep × Nat × Int) : List Rep × Nat × Int := (D ++ x.1, k + x.2.1, x.2.2)
theorem mapA_next {b : Bs} {m : Nat} (D : List Rep) (k : Nat) (h : (decP b).2.2 = 0) : mapA D k (allF (m + 1) b) = mapA (D ++ [(decP b).1]) (k + (decP b).2.1) (allF m (b.drop (decP b).2.1)) := by
  rw [allF, if_pos h]
  simp [mapA, Nat.add_assoc]
theorem mapA_short {b : Bs} {m : Nat} (D : List Rep) (k : Nat) (h : (decP b).2.2 = 31) : mapA D k (allF (m + 1) b) = (D, k, 0) := by
  rw [allF, if_neg (by omega), if_pos h]
  simp [mapA]
theorem mapA_wrong {b : Bs} {m : Nat} (D : List Rep) (k : Nat) (h : (decP b).2.2 = 30) : mapA D k (allF (m + 1) b) = (D, k + (decP b).2.1, 30) := by
  rw [allF, if_neg (by omega), if_neg (by omega), h]
  simp [mapA]
end Go.Proofs.YtpekeilpdbdnnaaDoor
namespace Go.Proofs.YtpekeilpdbdnnaaDoor
open Go.RowKit
attribute [local go_sem] fold_part fold_some fold_some' partAt_zero

/-- The world at the head of the loop over replies. -/
structure AllW (w : World) (ms : List RepM) (vX : Value) (wr : World) : Prop where
  k : Kept NoBlock w wr
  own : OwnK 4 26 rCells wr w.heap.size vX ms
  subs : ∀ m ∈ ms, GoodM wr (fun j => w.heap.size ≤ j ∧ ¬ (vX.ownBlock = some j)) m
  fits : ∀ m ∈ ms, FitM m
theorem AllW.kept {w : World} {ms : List RepM} {vX : Value} {wr w' : World} (h : AllW w ms vX wr) (hk : Kept NoBlock wr w') : AllW w ms vX w' := ⟨h.k.trans hk, h.own.kept hk, fun m hm => (h.subs m hm).keptN hk, h.fits⟩
theorem AllW.grow {w : World} {ms : List RepM} {m : RepM} {vX vX' : Value} {wr w' : World} (h : AllW w ms vX wr) (hg : wr.grownBy w' vX.ownBlock) (hown : OwnK 4 26 rCells w' w.heap.size vX' (ms ++ [m])) (hpl : ∀ j, vX'.ownBlock = some j → vX.ownBlock = some j ∨ wr.heap.size ≤ j)
    (hm : GoodM wr (fun j => w.heap.size ≤ j ∧ ¬ (vX.ownBlock = some j)) m) (hf : FitM m) : AllW w (ms ++ [m]) vX' w' := by
  have hlt := h.own.lt
  have hk : Kept (fun j => vX.ownBlock = some j) wr w' := Kept.grown (Kept.refl _ wr) hg (fun j e _ => e)
  have hsub : ∀ x, GoodM wr (fun j => w.heap.size ≤ j ∧ ¬ (vX.ownBlock = some j)) x → GoodM w' (fun j => w.heap.size ≤ j ∧ ¬ (vX'.ownBlock = some j)) x := fun x hx =>
    hx.kept hk (fun j _ hP e => hP.2 e) (fun j hj hP => ⟨hP.1, fun e => by
      rcases hpl j e with h1 | h1
      · exact hP.2 h1
      · omega⟩)
  refine ⟨Kept.trans' h.k hk (fun i hi e => by have := (hlt i e).1; omega), hown, fun x hx => ?_, fun x hx => ?_⟩
  · rcases List.mem_append.1 hx with hx | hx
    · exact hsub x (h.subs x hx)
    · obtain rfl := List.mem_singleton.1 hx
      exact hsub _ hm
  · rcases List.mem_append.1 hx with hx | hx
    · exact h.fits x hx
    · obtain rfl := List.mem_singleton.1 hx
      exact hf
def AllEnd (w : World) (b : Bs) (e : Ending) (w' : World) : Prop := Kept NoBlock w w' ∧ ∃ v ms, e = .returned (.tuple #[v, .int .i64 (allB b).2.1, .int .i64 (allB b).2.2]) ∧ ms.map RepM.rep = (allB b).1 ∧ RowK 4 rCells w' v ms ∧ (∀ m ∈ ms, GoodM w' AnyB m ∧ FitM m) ∧ ms.length ≤ b.length
theorem AllW.fin {w : World} {b : Bs} {ms : List RepM} {vX : Value} {wr : World} {p : Nat} {c : Int} (h : AllW w ms vX wr) (hm : allB b = (ms.map RepM.rep, p, c)) (hl : ms.length ≤ b.length) : AllEnd w b (.returned (.tuple #[vX, .int .i64 p, .int .i64 c])) wr := by
  refine ⟨h.k, vX, ms, by rw [hm], by rw [hm], OwnK.row rCells_len (by decide) h.own, fun m hmm => ⟨(h.subs m hmm).any, h.fits m hmm⟩, hl⟩

set_option maxRecDepth 100000 in
set_option maxHeartbeats 3200000 in
theorem pAll (v : Value) (b : Bs) (w : World) (h : BytesV w v b) (hl : b.length ≤ 100000000) (hlt : ∀ j, vblk v = some j → j < w.heap.size) :
    Calls Tryd.prog 20 #[v] w (AllEnd w b) := by
  obtain ⟨ap, cap, rfl, hcp, _⟩ := h.parts
  obtain ⟨n, hn⟩ : ∃ n, n = b.length := ⟨_, rfl⟩
  rw [← hn] at h hl hcp hlt ⊢
  have HB := Lib.hid h
  have HLT := Lib.hid hlt
  have HN := Lib.hid hn
  have HST := Lib.hid (show AllW w [] (.slice none 0 0) w from ⟨Kept.refl _ _, OwnK.nil _ _, fun m hm => (by cases hm), fun m hm => (by cases hm)⟩)
  clear h hlt hn
  go_enter Tryd.func20, Tryd.ntmps20
  go_wp2_with fail
  go_loopw [5, 6] (fun v5 v6 wr => ∃ (p m : Nat) (ms : List RepM), v6 = .int .i64 p ∧ p ≤ n ∧ ms.length ≤ p ∧ AllW w ms v5 wr ∧ n - p < m ∧ allB b = mapA (ms.map RepM.rep) p (allF m (b.drop p))) (fun _ v6 _ => n - (intOf v6).toNat)
  case atStart => exact ⟨0, n + 1, [], rfl, Nat.zero_le _, Nat.le_refl _, HST.out, by omega, by rw [HN.out]; unfold allB mapA; simp⟩
  case round =>
    obtain ⟨p, m, ms, rfl, hp, hms, hw, hmp, hmod⟩ := hrel
    obtain ⟨m', rfl⟩ : ∃ q, m = q + 1 := ⟨m - 1, by omega⟩
    have HW := Lib.hid hw
    have HMO := Lib.hid hmod
    have ht := BytesV.tail (HB.out.keptNo hw.k) p hp
    have hdl : (b.drop p).length = n - p := by rw [List.length_drop, HN.out]
    have HD := Lib.hid (pDecode _ (b.drop p) wr ht (by omega) (fun j e => Nat.lt_of_lt_of_le (HLT.out j (by rw [partAt_blk (n' := n) (c' := cap)] at e; exact e)) hw.k.size))
    have hpc : p ≤ cap := by omega
    have HDC := Lib.hid (decP_cases (b.drop p))
    clear hw hmod ht
    have HDL := Lib.hid hdl
    clear hdl
    go_wp2_with fail
    refine HD.out.mono ?_
    rintro e w2 ⟨hk2, r, rfl, hr, hgr, hfr⟩
    obtain ⟨apm, capm, hvm, _⟩ := hgr.row.parts
    have hka := Kept.allocd w2 (.cells #[.int .i64 r.k, .string ⟨r.s.toArray⟩, .int .i64 r.n, .slice apm r.l.length capm] 26)
    have hga := heap_alloc_new w2 (.cells #[.int .i64 r.k, .string ⟨r.s.toArray⟩, .int .i64 r.n, .slice apm r.l.length capm] 26)
    have hown := HW.out.own.lt
    have HG := Lib.hid ((hgr.mono (Q := fun j => w.heap.size ≤ j ∧ ¬ (u5.ownBlock = some j)) (fun j _ hP => ⟨by have := HW.out.k.size; omega, fun e => by have := (hown j e).2; omega⟩)).keptN hka)
    have HF := Lib.hid hfr
    have HR := Lib.hid hr
    have HVM := Lib.hid hvm
    have HW2 := Lib.hid ((HW.out.kept hk2).kept hka)
    have HGA := Lib.hid hga
    obtain ⟨c, hc⟩ : ∃ c, c = (decP (b.drop p)).2.2 := ⟨_, rfl⟩
    obtain ⟨k, hkk⟩ : ∃ k, k = (decP (b.drop p)).2.1 := ⟨_, rfl⟩
    rw [← hc, ← hkk] at HDC ⊢
    have HC := Lib.hid hc
    have HKK := Lib.hid hkk
    unfold repA
    rw [hvm]
    unfold strV
    obtain ⟨a0, a1, a2, a3⟩ := blk4 hga
    clear hk2 hr hgr hfr hvm hka hga hown hc hkk HD HST
    rcases HDC.out with ⟨rfl, hk1, hk2⟩ | ⟨rfl, hk2⟩ | ⟨rfl, hk2⟩
    · -- one more
      have hkb : p + k ≤ n := by have := HDL.out; omega
      have hnx : allB b = mapA ((ms ++ [r]).map RepM.rep) (p + k) (allF m' (b.drop (p + k))) := by
        rw [HMO.out, mapA_next _ _ HC.out.symm, ← HKK.out, List.drop_drop, List.map_append, ← HR.out]
        rfl
      have HNX := Lib.hid hnx
      clear hnx hk2
      have hkb2 := Kept.allocd (w2.alloc (.cells #[.int .i64 r.k, .string ⟨r.s.toArray⟩, .int .i64 r.n, .slice apm r.l.length capm] 26)) (.cells #[.int .i64 r.k, .string ⟨r.s.toArray⟩, .int .i64 r.n, .slice apm r.l.length capm] 26)
      have hgb2 := heap_alloc_new (w2.alloc (.cells #[.int .i64 r.k, .string ⟨r.s.toArray⟩, .int .i64 r.n, .slice apm r.l.length capm] 26)) (.cells #[.int .i64 r.k, .string ⟨r.s.toArray⟩, .int .i64 r.n, .slice apm r.l.length capm] 26)
      have HWA := Lib.hid (HW2.out.kept hkb2)
      have HGB := Lib.hid hgb2
      have HG2 := Lib.hid (HG.out.keptN hkb2)
      have hz1 : (w2.alloc (.cells #[.int .i64 r.k, .string ⟨r.s.toArray⟩, .int .i64 r.n, .slice apm r.l.length capm] 26)).heap.size = w2.heap.size + 1 := World.size_alloc _ _
      rw [hz1] at HGB
      clear hkb2 hgb2 hz1
      go_wp2_with (at_builtin; refine wpList_appP rfl _ _ 24 (by rfl) Tryd.underlying24 _ 56 repInfo rfl (by decide) (by decide) rCells_len w.heap.size u5 ms (by rfl) HWA.out.own (w2.heap.size + 1) r #[.int .i64 r.k, .string ⟨r.s.toArray⟩, .int .i64 r.n, .slice apm r.l.length capm] (0, 0) (by rfl) HGB.out (by unfold rCells strV; rw [HVM.out]) (rCells_one r (by rw [HVM.out]; rfl)) (by omega) HWA.out.k.size ?_; intro v' w' hown hgr hpl; refine Hid.out ?_)
      have HW9 := Lib.hid (AllW.grow HWA.out hgr hown hpl HG2.out HF.out)
      clear hown hgr hpl HWA HG2 HG HW2 a0 a1 a2 a3
      refine Lib.hid ?_
      go_wp2_with fail
      go_roundw
      case rel => exact ⟨p + k, m', ms ++ [r], by go_num, hkb, by rw [List.length_append, List.length_singleton]; omega, HW9.out, by omega, HNX.out⟩
      case measure => simp [intOf]; omega
    · -- too short
      have hfin : allB b = (ms.map RepM.rep, p, 0) := by rw [HMO.out, mapA_short _ _ HC.out.symm]
      have HFIN := Lib.hid (HW2.out.fin hfin (by have := HN.out; omega))
      clear hfin hk2
      go_wp2_with fail
      refine bodyPost_ret (v := .tuple #[u5, .int .i64 p, .int .i64 0]) (by simp [results, Tryd.results20, go_sem]) rfl ?_
      exact HFIN.out
    · -- wrong
      have hkb : p + k ≤ n := by have := HDL.out; omega
      have hfin : allB b = (ms.map RepM.rep, p + k, 30) := by rw [HMO.out, mapA_wrong _ _ HC.out.symm, HKK.out]
      have hfin2 := HW2.out.fin hfin (by have := HN.out; omega)
      rw [show (((p + k : Nat) : Int)) = (p : Int) + (k : Int) by omega] at hfin2
      have HFIN := Lib.hid hfin2
      clear hfin hfin2 hk2
      go_wp2_with fail
      refine bodyPost_ret (v := .tuple #[u5, .int .i64 ((p : Int) + (k : Int)), .int .i64 30]) (by simp [results, Tryd.results20, go_sem]) rfl ?_
      exact HFIN.out

set_option maxRecDepth 100000 in
set_option maxHeartbeats 3200000 in
theorem rAll (v : Value) (b : Bs) (w : World) (h : BytesV w v b) (hl : b.length ≤ 100000000) (hlt : ∀ j, vblk v = some j → j < w.heap.size) :
    Calls Tryd.prog 21 #[v] w (AllEnd w b) := by
  obtain ⟨ap, cap, rfl, hcp, _⟩ := h.parts
  obtain ⟨n, hn⟩ : ∃ n, n = b.length := ⟨_, rfl⟩
  rw [← hn] at h hl hcp hlt ⊢
  have HB := Lib.hid h
  have HLT := Lib.hid hlt
  have HN := Lib.hid hn
  have HST := Lib.hid (show AllW w [] (.slice none 0 0) w from ⟨Kept.refl _ _, OwnK.nil _ _, fun m hm => (by cases hm), fun m hm => (by cases hm)⟩)
  clear h hlt hn
  go_enter Tryd.func21, Tryd.ntmps21
  go_wp2_with fail
  go_loopw [5, 6] (fun v5 v6 wr => ∃ (p m : Nat) (ms : List RepM), v6 = .int .i64 p ∧ p ≤ n ∧ ms.length ≤ p ∧ AllW w ms v5 wr ∧ n - p < m ∧ allB b = mapA (ms.map RepM.rep) p (allF m (b.drop p))) (fun _ v6 _ => n - (intOf v6).toNat)
  case atStart => exact ⟨0, n + 1, [], rfl, Nat.zero_le _, Nat.le_refl _, HST.out, by omega, by rw [HN.out]; unfold allB mapA; simp⟩
  case round =>
    obtain ⟨p, m, ms, rfl, hp, hms, hw, hmp, hmod⟩ := hrel
    obtain ⟨m', rfl⟩ : ∃ q, m = q + 1 := ⟨m - 1, by omega⟩
    have HW := Lib.hid hw
    have HMO := Lib.hid hmod
    have ht := BytesV.tail (HB.out.keptNo hw.k) p hp
    have hdl : (b.drop p).length = n - p := by rw [List.length_drop, HN.out]
    have HD := Lib.hid (rDecode _ (b.drop p) wr ht (by omega) (fun j e => Nat.lt_of_lt_of_le (HLT.out j (by rw [partAt_blk (n' := n) (c' := cap)] at e; exact e)) hw.k.size))
    have hpc : p ≤ cap := by omega
    have HDC := Lib.hid (decP_cases (b.drop p))
    clear hw hmod ht
    have HDL := Lib.hid hdl
    clear hdl
    go_wp2_with fail
    refine HD.out.mono ?_
    rintro e w2 ⟨hk2, r, rfl, hr, hgr, hfr⟩
    obtain ⟨apm, capm, hvm, _⟩ := hgr.row.parts
    have hka := Kept.allocd w2 (.cells #[.int .i64 r.k, .string ⟨r.s.toArray⟩, .int .i64 r.n, .slice apm r.l.length capm] 26)
    have hga := heap_alloc_new w2 (.cells #[.int .i64 r.k, .string ⟨r.s.toArray⟩, .int .i64 r.n, .slice apm r.l.length capm] 26)
    have hown := HW.out.own.lt
    have HG := Lib.hid ((hgr.mono (Q := fun j => w.heap.size ≤ j ∧ ¬ (u5.ownBlock = some j)) (fun j _ hP => ⟨by have := HW.out.k.size; omega, fun e => by have := (hown j e).2; omega⟩)).keptN hka)
    have HF := Lib.hid hfr
    have HR := Lib.hid hr
    have HVM := Lib.hid hvm
    have HW2 := Lib.hid ((HW.out.kept hk2).kept hka)
    have HGA := Lib.hid hga
    obtain ⟨c, hc⟩ : ∃ c, c = (decP (b.drop p)).2.2 := ⟨_, rfl⟩
    obtain ⟨k, hkk⟩ : ∃ k, k = (decP (b.drop p)).2.1 := ⟨_, rfl⟩
    rw [← hc, ← hkk] at HDC ⊢
    have HC := Lib.hid hc
    have HKK := Lib.hid hkk
    unfold repA
    rw [hvm]
    unfold strV
    obtain ⟨a0, a1, a2, a3⟩ := blk4 hga
    clear hk2 hr hgr hfr hvm hka hga hown hc hkk HD HST
    rcases HDC.out with ⟨rfl, hk1, hk2⟩ | ⟨rfl, hk2⟩ | ⟨rfl, hk2⟩
    · -- one more
      have hkb : p + k ≤ n := by have := HDL.out; omega
      have hnx : allB b = mapA ((ms ++ [r]).map RepM.rep) (p + k) (allF m' (b.drop (p + k))) := by
        rw [HMO.out, mapA_next _ _ HC.out.symm, ← HKK.out, List.drop_drop, List.map_append, ← HR.out]
        rfl
      have HNX := Lib.hid hnx
      clear hnx hk2
      have hkb2 := Kept.allocd (w2.alloc (.cells #[.int .i64 r.k, .string ⟨r.s.toArray⟩, .int .i64 r.n, .slice apm r.l.length capm] 26)) (.cells #[.int .i64 r.k, .string ⟨r.s.toArray⟩, .int .i64 r.n, .slice apm r.l.length capm] 26)
      have hgb2 := heap_alloc_new (w2.alloc (.cells #[.int .i64 r.k, .string ⟨r.s.toArray⟩, .int .i64 r.n, .slice apm r.l.length capm] 26)) (.cells #[.int .i64 r.k, .string ⟨r.s.toArray⟩, .int .i64 r.n, .slice apm r.l.length capm] 26)
      have HWA := Lib.hid (HW2.out.kept hkb2)
      have HGB := Lib.hid hgb2
      have HG2 := Lib.hid (HG.out.keptN hkb2)
      have hz1 : (w2.alloc (.cells #[.int .i64 r.k, .string ⟨r.s.toArray⟩, .int .i64 r.n, .slice apm r.l.length capm] 26)).heap.size = w2.heap.size + 1 := World.size_alloc _ _
      rw [hz1] at HGB
      clear hkb2 hgb2 hz1
      go_wp2_with (at_builtin; refine wpList_appP rfl _ _ 24 (by rfl) Tryd.underlying24 _ 56 repInfo rfl (by decide) (by decide) rCells_len w.heap.size u5 ms (by rfl) HWA.out.own (w2.heap.size + 1) r #[.int .i64 r.k, .string ⟨r.s.toArray⟩, .int .i64 r.n, .slice apm r.l.length capm] (0, 0) (by rfl) HGB.out (by unfold rCells strV; rw [HVM.out]) (rCells_one r (by rw [HVM.out]; rfl)) (by omega) HWA.out.k.size ?_; intro v' w' hown hgr hpl; refine Hid.out ?_)
      have HW9 := Lib.hid (AllW.grow HWA.out hgr hown hpl HG2.out HF.out)
      clear hown hgr hpl HWA HG2 HG HW2 a0 a1 a2 a3
      refine Lib.hid ?_
      go_wp2_with fail
      go_roundw
      case rel => exact ⟨p + k, m', ms ++ [r], by go_num, hkb, by rw [List.length_append, List.length_singleton]; omega, HW9.out, by omega, HNX.out⟩
      case measure => simp [intOf]; omega
    · -- too short
      have hfin : allB b = (ms.map RepM.rep, p, 0) := by rw [HMO.out, mapA_short _ _ HC.out.symm]
      have HFIN := Lib.hid (HW2.out.fin hfin (by have := HN.out; omega))
      clear hfin hk2
      go_wp2_with fail
      refine bodyPost_ret (v := .tuple #[u5, .int .i64 p, .int .i64 0]) (by simp [results, Tryd.results21, go_sem]) rfl ?_
      exact HFIN.out
    · -- wrong
      have hkb : p + k ≤ n := by have := HDL.out; omega
      have hfin : allB b = (ms.map RepM.rep, p + k, 30) := by rw [HMO.out, mapA_wrong _ _ HC.out.symm, HKK.out]
      have hfin2 := HW2.out.fin hfin (by have := HN.out; omega)
      rw [show (((p + k : Nat) : Int)) = (p : Int) + (k : Int) by omega] at hfin2
      have HFIN := Lib.hid hfin2
      clear hfin hfin2 hk2
      go_wp2_with fail
      refine bodyPost_ret (v := .tuple #[u5, .int .i64 ((p : Int) + (k : Int)), .int .i64 30]) (by simp [results, Tryd.results21, go_sem]) rfl ?_
      exact HFIN.out
end Go.Proofs.YtpekeilpdbdnnaaDoor
