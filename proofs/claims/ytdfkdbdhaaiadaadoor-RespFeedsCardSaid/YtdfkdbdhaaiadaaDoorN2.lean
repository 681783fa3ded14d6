/- 'Parse': the number of every text. -/
import Derived.Test.YtdfkdbdhaaiadaaDoorN1
import Derived.Lib.ParseIntBTie
namespace Go.Proofs.YtdfkdbdhaaiadaaDoor
open Go.RowKit

theorem parseV_bad {l : List UInt8} (h : ¬ okUpto l l.length) : parseV l = (0, 10) := by
  unfold parseV; rw [if_neg h]
theorem parseV_ok {l : List UInt8} (h : okUpto l l.length) {v : Int} (hv : Lib.parseIntB 64 l = .ok v) (hi : Lib.itoa v = l) : parseV l = (v, 0) := by
  unfold parseV; rw [if_pos h, hv]; exact if_pos hi
theorem parseV_other {l : List UInt8} (h : okUpto l l.length) {v : Int} (hv : Lib.parseIntB 64 l = .ok v) (hi : Lib.itoa v ≠ l) : parseV l = (0, 10) := by
  unfold parseV; rw [if_pos h, hv]; exact if_neg hi
theorem parseV_err {l : List UInt8} (h : okUpto l l.length) (hv : ∀ u, Lib.parseIntB 64 l ≠ .ok u) : parseV l = (0, 10) := by
  unfold parseV; rw [if_pos h]
  cases e : Lib.parseIntB 64 l with
  | ok u => exact absurd e (hv u)
  | «syntax» => rfl
  | range => rfl

set_option maxHeartbeats 3200000 in
set_option maxRecDepth 100000 in
theorem nparse (s : ByteArray) (hs : s.size ≤ 1000000) (w : World) (hV : Vs w) :
    Calls Tryd.prog 52 #[.string s] w fun e w' => e = .returned (.tuple #[.int .i64 (parseV s.data.toList).1, .int .i64 (parseV s.data.toList).2]) ∧ Below w.heap.size w w' := by
  have hLn : s.data.toList.length = s.size := (Lib.size_eq s).symm
  have hk0 : (w.iter s 0).heap[w.heap.size]? = some (.stringIter s 0) := World.iter_heap w s 0
  have hb0 : Below w.heap.size w (w.iter s 0) := (Below.refl _ w).alloc (Nat.le_refl _) _
  go_enter Tryd.func52, Tryd.ntmps52
  go_wp2
  go_loopw [5] (fun _ wr => ∃ pos : Nat, pos ≤ s.size ∧ wr.heap[w.heap.size]? = some (.stringIter s pos) ∧ okUpto s.data.toList pos ∧ Below w.heap.size w wr)
    (fun _ wr => s.size - wr.iterPos w.heap.size)
  case atStart => exact ⟨0, Nat.zero_le _, hk0, fun i c h => by omega, hb0⟩
  case round =>
    obtain ⟨pos, hps, hk, hok, hnx⟩ := hrel
    clear hk0 hb0
    by_cases hp : pos < s.size
    · have hcb : s.data.toList[pos]? = some (s[pos]'hp) := by
        rw [List.getElem?_eq_getElem (by omega)]; rfl
      by_cases h128 : (s[pos]'hp).toNat < 128
      · have hnext : ∀ ty, (Instr.next (.pointer (some ⟨w.heap.size, 0, none⟩)) true ty).run Tryd.prog wr = _ := fun ty => Lib.run_next_ascii_at wr w.heap.size s pos ty hk hp h128
        have hk1 := Lib.iterAt_heap wr w.heap.size s pos (pos + 1) hk
        have hnx1 : Below w.heap.size w (wr.iterAt w.heap.size s (pos + 1)) := Lib.below_iterAt hnx (by omega) s (pos + 1)
        have hmu : wr.iterPos w.heap.size = pos := by simp [World.iterPos, hk]
        generalize wr.iterAt w.heap.size s (pos + 1) = W1 at hnext hk1 hnx1
        obtain ⟨c, hc⟩ : ∃ c, c = (s[pos]'hp).toNat := ⟨_, rfl⟩
        rw [← hc] at hnext
        have HC := Lib.hid hc
        cases hcok : okAt pos (s[pos]'hp) with
        | true =>
          have hgo : (48 ≤ c ∧ c ≤ 57) ∨ (c = 45 ∧ pos = 0) := by
            simp only [okAt, Bool.or_eq_true, Bool.and_eq_true, decide_eq_true_eq, beq_iff_eq, ← hc] at hcok
            exact hcok
          have hok1 : okUpto s.data.toList (pos + 1) := by
            intro i c' hi hc'
            by_cases e : i = pos
            · subst e; rw [hcb] at hc'; cases hc'; exact hcok
            · exact hok i c' (by omega) hc'
          have HOK := Lib.hid hok1
          clear hcok hok hc hcb hok1 h128
          rcases hgo with ⟨g1, g2⟩ | ⟨rfl, rfl⟩
          · go_wp2
            go_roundw
            case rel => exact ⟨pos + 1, by omega, hk1, HOK.out, hnx1⟩
            case measure =>
              have hmu2 : W1.iterPos w.heap.size = pos + 1 := by simp [World.iterPos, hk1]
              rw [hmu, hmu2]; omega
          · go_wp2
            go_roundw
            case rel => exact ⟨1, by omega, hk1, HOK.out, hnx1⟩
            case measure =>
              have hmu2 : W1.iterPos w.heap.size = 1 := by simp [World.iterPos, hk1]
              rw [hmu, hmu2]; omega
        | false =>
          have hbad : parseV s.data.toList = (0, 10) := parseV_bad (fun h => by
            have := h pos _ (by omega) hcb
            rw [hcok] at this; cases this)
          have HBAD := Lib.hid hbad
          have hgo : (¬ (48 ≤ c) ∨ ¬ (c ≤ 57)) ∧ (¬ (c = 45) ∨ ¬ (pos = 0)) := by
            simp only [okAt, Bool.or_eq_false_iff, Bool.and_eq_false_iff, decide_eq_false_iff_not, beq_eq_false_iff_ne, ne_eq, ← hc] at hcok
            exact hcok
          clear hcok hok hc hcb h128 hbad
          obtain ⟨g1, g2⟩ := hgo
          rcases g1 with g1 | g1 <;> rcases g2 with g2 | g2 <;> go_wp2 <;> go_ret2 <;> exact ⟨(by rw [HBAD.out]; rfl), hnx1⟩
      · have hnext : ∀ ty, (Instr.next (.pointer (some ⟨w.heap.size, 0, none⟩)) true ty).run Tryd.prog wr = _ := fun ty => Lib.run_next_any_at wr w.heap.size s pos ty hk hp
        have hbig := decode_big s pos hp (by omega)
        have hnx1 : Below w.heap.size w (wr.iterAt w.heap.size s (pos + (Utf8.decode s pos).2)) := Lib.below_iterAt hnx (by omega) s _
        generalize wr.iterAt w.heap.size s (pos + (Utf8.decode s pos).2) = W1 at hnext hnx1
        generalize (Utf8.decode s pos).1 = r at *
        have hbad : parseV s.data.toList = (0, 10) := parseV_bad (fun h => by
          have := h pos _ (by omega) hcb
          simp only [okAt, Bool.or_eq_true, Bool.and_eq_true, decide_eq_true_eq, beq_iff_eq] at this
          omega)
        have HBAD := Lib.hid hbad
        have q1 : ¬ (r ≤ 57) := by omega
        have q2 : ¬ (r = 45) := by omega
        clear hbad hcb h128 hok
        go_wp2
        go_ret2
        exact ⟨(by rw [HBAD.out]; rfl), hnx1⟩
    · have hnext : ∀ ty, (Instr.next (.pointer (some ⟨w.heap.size, 0, none⟩)) true ty).run Tryd.prog wr = _ := fun ty => Lib.run_next_end_at wr w.heap.size s pos ty hk hp
      have hall : okUpto s.data.toList s.data.toList.length := by
        rw [hLn, show s.size = pos by omega]; exact hok
      go_wp2_with fail
      refine (nparseInt s hs wr (hV.below hnx)).mono ?_
      rintro e W2 ⟨v, ev, rfl, hb2, hcase⟩
      have hnx2 := hnx.trans (hb2.mono hnx.size)
      rcases hcase with ⟨rfl, hv⟩ | ⟨⟨t, p, rfl⟩, hno⟩
      · have hvb : -9223372036854775808 ≤ v ∧ v ≤ 9223372036854775807 := by
          have := Lib.parseIntB_bounds hv
          omega
        by_cases hit : Lib.itoa v = s.data.toList
        · have HPV := Lib.hid (parseV_ok hall hv hit)
          have hse : (⟨(Lib.itoa v).toArray⟩ : ByteArray) = s := by rw [hit]
          go_wp2_with fail
          refine (nformat v hvb.1 hvb.2 W2 (hV.below hnx2)).mono ?_
          rintro e W3 ⟨rfl, hb3⟩
          rw [hse]
          clear hse hit
          go_wp2
          go_ret2
          exact ⟨(by rw [HPV.out]; rfl), hnx2.trans (hb3.mono hnx2.size)⟩
        · have HPV := Lib.hid (parseV_other hall hv hit)
          obtain ⟨S, hS⟩ : ∃ S : ByteArray, S = ⟨(Lib.itoa v).toArray⟩ := ⟨_, rfl⟩
          have hse : ¬ (S = s) := fun h => hit (by rw [← h, hS])
          have hse' : (S.toList == s.toList) = false := by
            rw [beq_eq_false_iff_ne, Go.ByteArray.toList_eq, Go.ByteArray.toList_eq]
            exact fun h => hse (ByteArray.ext (Array.ext' h))
          have HFM := nformat v hvb.1 hvb.2 W2 (hV.below hnx2)
          rw [← hS] at HFM
          clear hS
          go_wp2_with fail
          refine HFM.mono ?_
          rintro e W3 ⟨rfl, hb3⟩
          go_wp2
          go_ret2
          exact ⟨(by rw [HPV.out]; rfl), hnx2.trans (hb3.mono hnx2.size)⟩
      · have HPV := Lib.hid (parseV_err hall hno)
        go_wp2
        go_ret2
        exact ⟨(by rw [HPV.out]; rfl), hnx2⟩
end Go.Proofs.YtdfkdbdhaaiadaaDoor
