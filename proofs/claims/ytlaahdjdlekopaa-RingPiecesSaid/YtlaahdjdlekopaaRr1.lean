/- 'RingRuns' returns true. -/
import Derived.Test.YtlaahdjdlekopaaRf5
namespace Go.Proofs.Ytlaahdjdlekopaa
open Go.RowKit
attribute [local go_sem] stillV_value stillV_skip

def RS.fromE (s : RS) (k : Int) : Int := if k < s.first ∨ s.off < k then 191 else 0
def RS.fromL (s : RS) (k : Int) : List UInt8 := if k < s.first ∨ s.off < k then [] else s.L.drop (k - s.first).toNat

theorem xfrom (g : Nat) (R : Option Nat) (s : RS) (k : Int) (w : World) (h : Rg w g R s) :
    Calls Try.prog 15 #[.pointer (some ⟨g, 0, none⟩), .int .i64 k] w fun e w' => ∃ ap n cap, e = .returned (.tuple #[.slice ap n cap, .int .i64 (s.fromE k)]) ∧ Holds w' ap n ((s.fromL k).map bv) ∧ (∀ ad, ap = some ad → w.heap.size ≤ ad.block) ∧ Kept NoBlock w w' := by
  unfold RS.fromE RS.fromL
  by_cases hk : k < s.first ∨ s.off < k
  · refine (rfrom_out g R s k w h hk).mono ?_
    rintro e w' ⟨rfl, rfl⟩
    rw [if_pos hk, if_pos hk]
    exact ⟨none, 0, 0, rfl, ⟨rfl, fun h => absurd h (Nat.not_lt_zero 0)⟩, (fun _ h => by cases h), Kept.refl _ _⟩
  · have hl := h.le
    refine (rfrom_in g R s (k - s.first).toNat k w h (by omega) (by omega)).mono ?_
    rintro e w' ⟨ap, cap, rfl, h1, h2, h3, h4, h5⟩
    rw [if_neg hk, if_neg hk]
    exact ⟨ap, _, cap, rfl, h1, fun ad e => Nat.le_of_eq (h2 ad e).1.symm, h5⟩

theorem Rr.le {w : World} {h : Nat} {q : Option Nat} {s : RS} (hr : Rr w h q s) : s.off = s.first + s.L.length ∧ s.L.length ≤ s.size ∧ s.off ≤ 1125899906842624 := by
  obtain ⟨_, _, _, h1, h2, _, _, _, _, _, _, h9⟩ := hr
  exact ⟨h1, h2, h9⟩

theorem ffrom (h : Nat) (q : Option Nat) (s : RS) (k : Int) (w : World) (hr : Rr w h q s) :
    Calls Try.prog 19 #[.pointer (some ⟨h, 0, none⟩), .int .i64 k] w fun e w' => ∃ ap n cap, e = .returned (.tuple #[.slice ap n cap, .int .i64 (s.fromE k)]) ∧ Holds w' ap n ((s.fromL k).map bv) ∧ Kept NoBlock w w' := by
  unfold RS.fromE RS.fromL
  by_cases hk : k < s.first ∨ s.off < k
  · refine (ffrom_out h q s k w hr hk).mono ?_
    rintro e w' ⟨rfl, n, rfl⟩
    rw [if_pos hk, if_pos hk]
    exact ⟨none, 0, 0, rfl, ⟨rfl, fun h => absurd h (Nat.not_lt_zero 0)⟩, (Kept.refl _ _).drewN n⟩
  · have hl := hr.le
    have hc := ffrom_in h q s (k - s.first).toNat k.toNat w hr (by omega) (by omega)
    rw [show ((k.toNat : Nat) : Int) = k by omega] at hc
    refine hc.mono ?_
    rintro e w' ⟨ap, cap, rfl, h1, h2, h3, h4, h5⟩
    rw [if_neg hk, if_neg hk]
    exact ⟨ap, _, cap, rfl, h1, h5⟩

/-- The law's acts lie in memory. -/
def OpsR (w : World) (ap : Option Addr) (n : Nat) : Prop := ∀ j, j < n → ∃ (ad : Addr) (kd i k : Int) (bp : Option Addr) (m c : Nat) (b : List UInt8), ap = some ad ∧
  (w.cell? (ad.add (j * 4)) = some (.int .i64 kd) ∧ w.cell? ((ad.add (j * 4)).add 1) = some (.slice bp m c) ∧ w.cell? ((ad.add (j * 4)).add 2) = some (.int .u64 i) ∧ w.cell? ((ad.add (j * 4)).add 3) = some (.int .i64 k)) ∧
  Holds w bp (min m 500) (b.map bv) ∧ m ≤ c ∧ (bp = none → c = 0)

theorem runs_bad (size id : Int) (ao : Option Addr) (no co : Nat) (asked k : Int) (w : World) (hs : ¬ (1 ≤ size ∧ size ≤ 16777216 ∧ id ≠ 0)) :
    Calls Try.prog 5 #[.int .i64 size, .int .u64 id, .slice ao no co, .int .u64 asked, .int .i64 k] w fun e w' => e = .returned (.bool true) ∧ Below w.heap.size w w' := by
  have hn := rnew_bad size id w hs
  have hn2 := fnew_bad size id w hs
  clear hs
  go_enter Try.func5, Try.ntmps5
  go_wp2_with (first
    | (go_at_call 9; refine hn.mono ?_; rintro e w1 ⟨rfl, rfl⟩)
    | (go_at_call 17; refine hn2.mono ?_; rintro e w1 ⟨rfl, rfl⟩)
    | (go_at_call 10; refine (alive_true _).mono ?_; rintro e wz ⟨rfl, hkz⟩))
  go_ret
  exact ⟨rfl, hkz.below (Nat.le_refl _) (fun _ h => h.elim)⟩

theorem bo_new (size id : Int) (w w1 : World) (hI : In w w1 w.heap.size none ⟨id, 0, 0, 0, 0, size.toNat, []⟩) {w2 : World} (hr : Rr w2 w1.heap.size none ⟨id, 0, 0, 0, 0, size.toNat, []⟩) (hk : Kept NoBlock w1 w2) :
    Bo w w2 w.heap.size none ⟨id, 0, 0, 0, 0, size.toNat, []⟩ w1.heap.size none ⟨id, 0, 0, 0, 0, size.toNat, []⟩ := by
  have := hI.rg.lt
  exact ⟨hI.keptNo hk, hr, hI.below.size, (fun r e => by cases e), by omega, (fun e => by cases e), (fun e => by cases e), (fun r e => by cases e)⟩

theorem Bo.cells {w0 w : World} {g : Nat} {R : Option Nat} {s : RS} {h : Nat} {q : Option Nat} {t : RS} (b : Bo w0 w g R s h q t) :
    w.cell? ⟨h, 0, none⟩ = some (.int .u64 t.id) ∧ w.cell? ⟨h, 1, none⟩ = some (.int .i64 t.off) ∧ w.cell? ⟨h, 2, none⟩ = some (.int .u64 t.second) ∧ w.cell? ⟨h, 3, none⟩ = some (.int .i64 t.fork) := by
  obtain ⟨aq, cq, h0, _⟩ := b.rr
  obtain ⟨c0, c1, c2, c3, _, _⟩ := blk6 h0
  exact ⟨c0, c1, c2, c3⟩

set_option maxRecDepth 8000 in
set_option maxHeartbeats 6400000 in
theorem runs_good (size id : Int) (ao : Option Addr) (no co : Nat) (asked k : Int) (w : World) (hs : 1 ≤ size ∧ size ≤ 16777216 ∧ id ≠ 0) (hO : OpsR w ao no) :
    Calls Try.prog 5 #[.int .i64 size, .int .u64 id, .slice ao no co, .int .u64 asked, .int .i64 k] w fun e w' => e = .returned (.bool true) ∧ Below w.heap.size w w' := by
  have HO := Lib.hid hO
  have hs1 := hs.1
  have hs2 := hs.2.1
  have hs3 := hs.2.2
  clear hO hs
  go_enter Try.func5, Try.ntmps5
  go_wp2_with fail
  refine (nnew size id w w (Below.refl _ _) hs1 hs2 hs3).mono ?_
  rintro e w1 ⟨rfl, hI1, _⟩
  go_wp2_with fail
  refine (fnew size id w1 hs1 hs2 hs3).mono ?_
  rintro e w2 ⟨rfl, hr2, hk2⟩
  have bo := bo_new size id w w1 hI1 hr2 hk2
  generalize (⟨id, 0, 0, 0, 0, size.toNat, []⟩ : RS) = s0 at *
  generalize w1.heap.size = h at *
  generalize hg : w.heap.size = g at *
  have HG := Lib.hid hg
  clear hI1 hr2 hk2 hs1 hs2 hs3 hg
  go_wp2_with fail
  go_loopw [15] (fun vi wr => ∃ (i : Nat) (R q : Option Nat) (s : RS), vi = .int .i64 i ∧ i ≤ 100 ∧ Bo w wr g R s h q s) (fun vi _ => 101 - (intOf vi).toNat)
  case atStart => exact ⟨0, none, none, s0, rfl, by omega, bo⟩
  case round =>
    obtain ⟨i, R, q, s, rfl, hi, bo⟩ := hrel
    by_cases hlt : i < no ∧ i < 100
    · obtain ⟨hj1, hj2⟩ := hlt
      obtain ⟨ad, kd, oi, ok, bp, m, c, b, rfl, o0123, hb, hmc, hz⟩ := HO.out i hj1
      obtain ⟨o0, o1, o2, o3⟩ := o0123
      have hB := bo.inn.below
      have p0 : wr.cell? (ad.add (i * 4)) = some (.int .i64 kd) := (hB.cell (cell_lt o0)).trans o0
      have p1 : wr.cell? ⟨(ad.add (i * 4)).block, (ad.add (i * 4)).off + 1, none⟩ = some (.slice bp m c) := (hB.cell (cell_lt o1)).trans o1
      have p2 : wr.cell? ⟨(ad.add (i * 4)).block, (ad.add (i * 4)).off + 2, none⟩ = some (.int .u64 oi) := (hB.cell (cell_lt o2)).trans o2
      have p3 : wr.cell? ⟨(ad.add (i * 4)).block, (ad.add (i * 4)).off + 3, none⟩ = some (.int .i64 ok) := (hB.cell (cell_lt o3)).trans o3
      have HA := Lib.hid (act_any bo bp m c b kd oi ok hb hmc hz)
      clear o0 o1 o2 o3 hB hb hmc hz bo
      go_wp2_with fail
      refine (Hid.out HA).mono ?_
      rintro e w4 ⟨rfl, R4, q4, bo4⟩
      clear HA p0 p1 p2 p3
      generalize s.act kd b oi ok = s4 at *
      go_wp2_with fail
      refine (rwindow g R4 s4 w4 bo4.inn.rg).mono ?_
      rintro e w5 ⟨rfl, n5, rfl⟩
      have bo5 := bo4.keptNo ((Kept.refl _ _).drewN n5)
      clear bo4
      generalize w4.drewN n5 = w5 at *
      go_wp2_with fail
      refine (xfrom g R4 s4 k w5 bo5.inn.rg).mono ?_
      rintro e w6 ⟨ax, nx, cx, rfl, hx6, hxn, hk6⟩
      have bo6 := bo5.keptNo hk6
      go_wp2_with fail
      refine (ffrom h q4 s4 k w6 bo6.rr).mono ?_
      rintro e w7 ⟨ay, ny, cy, rfl, hy7, hk7⟩
      have bo7 := bo6.keptNo hk7
      have hx7 := hx6.kept hk7 (fun _ _ h => h)
      clear bo5 bo6 hk6 hk7 hx6 hxn
      obtain ⟨b0, b1, b2, b3⟩ := bo7.cells
      generalize s4.fromE k = er at *
      generalize s4.fromL k = fl at *
      go_wp2_with fail
      refine wp_tree (fun W => (W.cell? ⟨h, 0, none⟩ = some (.int .u64 s4.id) ∧ W.cell? ⟨h, 1, none⟩ = some (.int .i64 s4.off)) ∧ (W.cell? ⟨h, 2, none⟩ = some (.int .u64 s4.second) ∧ W.cell? ⟨h, 3, none⟩ = some (.int .i64 s4.fork))) 6
        (.flt 0 (.flt 2 (.flt 3 (.flt 4 (.flt 5 (.seg 1 (.fin [6, 7, 8, 9, 10, 11, 12, 13, 14, 15, 16, 17, 18, 19, 20, 21, 22, 23, 24, 25, 26, 27, 28, 29, 30, 31, 32, 33, 34, 35, 36, 37, 38, 39, 40, 41, 42, 43, 44])))))))
        (by kernel_rfl) (by kernel_rfl) (fun _ _ _ dst _ h => by cases dst <;> exact h) (fun _ _ h => h) ⟨⟨b0, b1⟩, b2, b3⟩ (fun n0 => ?_)
      repeat (refine tree_flt rfl rfl ?_; apply Exists.intro; refine ⟨fun w' hw' => ?_, ?_⟩; (go_simp; rfl); simp only [Act.put, List.setIfInBounds_toArray, List.set_cons_succ, List.set_cons_zero])
      have bo8 := bo7.keptNo ((Kept.refl _ _).drewN n0)
      have hx8 := hx7.kept ((Kept.refl NoBlock w7).drewN n0) (fun _ _ h => h)
      have hy8 := hy7.kept ((Kept.refl NoBlock w7).drewN n0) (fun _ _ h => h)
      clear bo7 hx7 hy7 b0 b1 b2 b3
      generalize w7.drewN n0 = w8 at *
      refine tree_seg rfl ?_
      go_wp2_with (go_at_call 20; refine (rstate g R4 s4 w8 bo8.inn.rg).mono ?_; rintro e w9 ⟨rfl, hk9⟩)
      have bo9 := bo8.keptNo hk9
      have hx9 := hx8.kept hk9 (fun _ _ h => h)
      have hy9 := hy8.kept hk9 (fun _ _ h => h)
      clear bo8 hx8 hy8 hk9
      obtain ⟨d0, d1, d2, d3⟩ := bo9.cells
      refine Halt.mk ⟨.inr ⟨⟨d0, d1⟩, d2, d3⟩, ?_⟩
      have cvx : ∀ n, (convert 22 9 (.slice ax nx cx)).run Try.prog (w9.drewN n) = .ok (.string ⟨fl.toArray⟩) (w9.drewN n) := fun n => conv_bytes (w9.drewN n) 22 9 5 Try.underlying22 Try.underlying5 Try.underlying9 cx (hx9.kept ((Kept.refl NoBlock w9).drewN n) (fun _ _ h => h))
      have cvy : ∀ n, (convert 22 9 (.slice ay ny cy)).run Try.prog (w9.drewN n) = .ok (.string ⟨fl.toArray⟩) (w9.drewN n) := fun n => conv_bytes (w9.drewN n) 22 9 5 Try.underlying22 Try.underlying5 Try.underlying9 cy (hy9.kept ((Kept.refl NoBlock w9).drewN n) (fun _ _ h => h))
      have AF := Lib.hid (fun n => ffirst h q4 s4 (w9.drewN n) (bo9.rr.keptNo ((Kept.refl _ _).drewN n)))
      have AX := Lib.hid (fun n => raccepts g R4 s4 asked k (w9.drewN n) (bo9.inn.rg.keptNo ((Kept.refl _ _).drewN n)))
      have AR := Lib.hid (fun n => faccepts h q4 s4 asked k (w9.drewN n) (bo9.rr.keptNo ((Kept.refl _ _).drewN n)))
      clear hx9 hy9
      generalize s4.accepts asked k = acc at *
      refine tree_fin ?_
      simp only [pick, List.filterMap_cons, List.filterMap_nil, List.getElem?_cons_succ, List.getElem?_cons_zero]
      repeat (quiet_step (first
        | (go_at_call 21; exact Calls.quiet_of (Hid.out AF _))
        | (go_at_call 14; exact Calls.quiet_of_same ((Hid.out AX _).mono (fun e w' h => ⟨h.1, h.2.symm⟩)))
        | (go_at_call 22; exact Calls.quiet_of (Hid.out AR _))))
      refine wpQuiet_nil ?_
      rintro _ ⟨n9, rfl⟩
      go_wp2
      go_roundw
      case rel => exact ⟨i + 1, R4, q4, s4, by go_num, by omega, bo9.keptNo ((Kept.refl _ _).drewN n9)⟩
      case measure => simp [intOf]; omega
    · have hBS := bo.inn.below.size
      have hend : ¬ (i < no) ∨ ¬ (i < 100) := by omega
      rcases hend with h1 | h1
      · go_wp2_with fail
        refine (alive_true _).mono ?_
        rintro e wz ⟨rfl, hkz⟩
        go_wp2
        go_ret
        exact ⟨rfl, bo.inn.below.trans (hkz.below hBS (fun _ h => h.elim))⟩
      · by_cases h2 : i < no
        all_goals go_wp2_with fail
        all_goals refine (alive_true _).mono ?_
        all_goals rintro e wz ⟨rfl, hkz⟩
        all_goals go_wp2
        all_goals go_ret
        all_goals exact ⟨rfl, bo.inn.below.trans (hkz.below hBS (fun _ h => h.elim))⟩
end Go.Proofs.Ytlaahdjdlekopaa
