/- Merged: Rows of deeds in memory; The line of a world's settings; Is one of a row's deeds none that has a line?; The line of a world's settings, by the program; A script's text, by the program; Settings of a line, by both texts' ways; Settings of a line, by the program; The script of a text: by definition, and by the program; The script of a text, by the program; Two rows of deeds: the same?. -/
import Derived.Test.YtdinkdmkbfbjbaaGreatDoorZAl
import Derived.Lib.SplitLaws
set_option linter.all false
namespace Go.Proofs.YtdinkdmkbfbjbaaGreatDoor
open Go.RowKit
attribute [local go_sem] fold_part fold_some fold_some' partAt_zero

/-- A deed's five cells; the second is its bytes' slice. -/
def dCells (p : Deed × Value) : List Value := [.int .i64 p.1.kind, .int .i64 p.1.a, .int .i64 p.1.n, .int .u64 p.1.draw, p.2]
theorem dCells_len (ps : List (Deed × Value)) : (ps.flatMap dCells).length = 5 * ps.length := by
  induction ps with
  | nil => rfl
  | cons p ps ih => rw [List.flatMap_cons, List.length_append, ih]; simp [dCells]; omega
theorem dCells_at : ∀ (ps : List (Deed × Value)) (i j : Nat) (p : Deed × Value), ps[i]? = some p → j < 5 → (ps.flatMap dCells)[i * 5 + j]? = (dCells p)[j]?
  | [], i, j, p, h, _ => by simp at h
  | q :: ps, 0, j, p, h, hj => by
    obtain rfl : q = p := by simpa using h
    rw [List.flatMap_cons, List.getElem?_append_left (by simp [dCells]; omega)]
    simp
  | q :: ps, i + 1, j, p, h, hj => by
    rw [List.flatMap_cons, List.getElem?_append_right (by simp [dCells]; omega)]
    have e : (i + 1) * 5 + j - (dCells q).length = i * 5 + j := by simp [dCells]; omega
    rw [e]
    exact dCells_at ps i j p (by simpa using h) hj
theorem dCells_one (ps : List (Deed × Value)) (h : ∀ p ∈ ps, p.2.oneCell' = true) : ∀ u ∈ ps.flatMap dCells, u.oneCell' = true := by
  intro u hu
  obtain ⟨p, hp, hu⟩ := List.mem_flatMap.1 hu
  simp only [dCells, List.mem_cons, List.not_mem_nil, or_false] at hu
  rcases hu with rfl | rfl | rfl | rfl | rfl
  · rfl
  · rfl
  · rfl
  · rfl
  · exact h p hp

/-- A slice of deeds: the cells. -/
def DeedsV (w : World) (v : Value) (ps : List (Deed × Value)) : Prop := ∃ ap cap, v = .slice ap ps.length cap ∧ Holds w ap (5 * ps.length) (ps.flatMap dCells) ∧ ps.length ≤ cap ∧ (ap = none → cap = 0)
/-- The deeds' bytes. -/
def BsV (w : World) (ps : List (Deed × Value)) : Prop := ∀ p ∈ ps, BytesV w p.2 p.1.b

theorem DeedsV.kept {w w' : World} {v : Value} {ps : List (Deed × Value)} (h : DeedsV w v ps) (hk : Kept NoBlock w w') : DeedsV w' v ps := by
  obtain ⟨ap, cap, rfl, h1, h2, h3⟩ := h
  exact ⟨ap, cap, rfl, h1.keptS hk (fun _ _ h => h), h2, h3⟩
theorem BsV.kept {w w' : World} {ps : List (Deed × Value)} (h : BsV w ps) (hk : Kept NoBlock w w') : BsV w' ps := fun p hp => (h p hp).keptNo hk

theorem add_off (a : Addr) (i j : Nat) (hj : j ≠ 0) : a.add (i + j) = ⟨(a.add i).block, (a.add i).off + j, none⟩ := by
  rw [← addr_add_add]
  generalize a.add i = b
  simp [Addr.add, hj]

theorem DeedsV.at {w : World} {ap : Option Addr} {n cap : Nat} {ps : List (Deed × Value)} (h : DeedsV w (.slice ap n cap) ps) {i : Nat} {p : Deed × Value} (hi : ps[i]? = some p) :
    ∃ ad, ap = some ad ∧ w.cell? (ad.add (i * 5)) = some (.int .i64 p.1.kind) ∧ w.cell? ⟨(ad.add (i * 5)).block, (ad.add (i * 5)).off + 1, none⟩ = some (.int .i64 p.1.a) ∧ w.cell? ⟨(ad.add (i * 5)).block, (ad.add (i * 5)).off + 2, none⟩ = some (.int .i64 p.1.n) ∧
      w.cell? ⟨(ad.add (i * 5)).block, (ad.add (i * 5)).off + 3, none⟩ = some (.int .u64 p.1.draw) ∧ w.cell? ⟨(ad.add (i * 5)).block, (ad.add (i * 5)).off + 4, none⟩ = some p.2 := by
  obtain ⟨ap', cap', e, h1, h2, h3⟩ := h
  cases e
  have hl := (List.getElem?_eq_some_iff.1 hi).1
  obtain ⟨ad, rfl, hc⟩ := h1.2 (by omega)
  refine ⟨ad, rfl, hc _ _ (dCells_at ps i 0 p hi (by decide)), ?_, ?_, ?_, ?_⟩
  · rw [← add_off ad (i * 5) 1 (by decide)]; exact hc _ _ (dCells_at ps i 1 p hi (by decide))
  · rw [← add_off ad (i * 5) 2 (by decide)]; exact hc _ _ (dCells_at ps i 2 p hi (by decide))
  · rw [← add_off ad (i * 5) 3 (by decide)]; exact hc _ _ (dCells_at ps i 3 p hi (by decide))
  · rw [← add_off ad (i * 5) 4 (by decide)]; exact hc _ _ (dCells_at ps i 4 p hi (by decide))

/-- A row of deeds that the call itself has made. -/
def OwnD (w : World) (base : Nat) (v : Value) (ps : List (Deed × Value)) : Prop := w.ownsRow base 45 5 v ps.length (ps.flatMap dCells)
theorem OwnD.nil (w : World) (base : Nat) : OwnD w base (.slice none 0 0) [] := World.ownsRow_nil _ _ _ _
theorem OwnD.deeds {w : World} {base : Nat} {v : Value} {ps : List (Deed × Value)} (h : OwnD w base v ps) : DeedsV w v ps := by
  have hl : (ps.flatMap dCells).length = 5 * ps.length := dCells_len ps
  rcases h.2 with ⟨rfl, h0⟩ | ⟨g, cap, cur, rfl, hb, hg, hn, _, _, _⟩
  · refine ⟨none, 0, by rw [h0], ⟨hl, fun hp => ?_⟩, by omega, fun _ => rfl⟩
    omega
  · exact ⟨some ⟨g, 0, none⟩, cap, rfl, ⟨hl, fun _ => ⟨_, rfl, World.ownsRow.cells h rfl⟩⟩, hn, fun h => by cases h⟩
theorem OwnD.form {w : World} {base : Nat} {v : Value} {ps : List (Deed × Value)} (h : OwnD w base v ps) : ∃ ap cap, v = .slice ap ps.length cap ∧ ps.length ≤ cap := by
  obtain ⟨ap, cap, rfl, _, h, _⟩ := h.deeds
  exact ⟨ap, cap, rfl, h⟩
theorem OwnD.kept {w w' : World} {base : Nat} {v : Value} {ps : List (Deed × Value)} (h : OwnD w base v ps) (hk : Kept NoBlock w w') : OwnD w' base v ps := by
  refine ⟨h.1, ?_⟩
  rcases h.2 with hn | ⟨g, cap, cur, rfl, hb, hg, rest⟩
  · exact .inl hn
  · exact .inr ⟨g, cap, cur, rfl, hb, hk.heap hg (fun h => h), rest⟩
theorem OwnD.lt {w : World} {base : Nat} {v : Value} {ps : List (Deed × Value)} (h : OwnD w base v ps) : ∀ k, v.ownBlock = some k → base ≤ k ∧ k < w.heap.size := World.ownsRow.lt h
theorem Kept.appD {w0 w w' : World} {base : Nat} {v : Value} {ps : List (Deed × Value)} {S : Nat → Prop} (hk : Kept S w0 w) (hown : OwnD w base v ps) (hb : w0.heap.size ≤ base) (hg : w.grownBy w' v.ownBlock) : Kept S w0 w' :=
  hk.grown hg (fun k e hlt => absurd hlt (by have := (hown.lt k e).1; omega))

theorem deedInfo : (Tryz.prog.info? 45).map (fun i => (i.zero, i.size, i.bytes)) = some (some (.agg #[.int .i64 0, .int .i64 0, .int .i64 0, .int .u64 0, .slice none 0 0]), 5, 56) := by kernel_rfl

/-- 'append(l, d)'. -/
theorem wpList_appD {w : World} {ops : Array Oper} {rest : List Oper} {o : Oper} {a : Act} {Q : Exit → Act → World → Prop} (hgd : o.guard = none) (s x : Operand)
    (ho : o.op = .call { callee := .builtin .append, args := #[s, x], argTypes := #[28, 28] })
    (base : Nat) (v : Value) (ps : List (Deed × Value)) (hs : a.eval s = v) (hown : OwnD w base v ps) (b : Nat) (p : Deed × Value) (hx : a.eval x = .slice (some ⟨b, 0, none⟩) 1 1)
    (hu : w.heap[b]? = some (.cells #[.int .i64 p.1.kind, .int .i64 p.1.a, .int .i64 p.1.n, .int .u64 p.1.draw, p.2] 45 (0, 0))) (h1 : p.2.oneCell' = true) (hlen : ps.length ≤ 1100000) (hbase : base ≤ w.heap.size)
    (h : ∀ v' w', OwnD w' base v' (ps ++ [p]) → w.grownBy w' v.ownBlock → wpList Tryz.prog ops Q rest (a.put o.dst v') w') : wpList Tryz.prog ops Q (o :: rest) a w := by
  obtain ⟨i0, hi, hz0, hz1, hz2⟩ := info_parts deedInfo
  refine wpList_append_own (P := Tryz.prog) w hgd s x 28 ho base 45 i0 _ 5 56 Tryz.underlying28 hi hz0 hz1 hz2 rfl (by decide) v ps.length (ps.flatMap dCells) hs hown ⟨b, 0, none⟩ 1 1 (dCells p) hx rfl
    (fun j u hj => by rw [addr_add, Nat.zero_add]; exact cellB hu (by simpa [dCells] using hj))
    (fun u hu' => dCells_one [p] (fun q hq => by obtain rfl := List.mem_singleton.1 hq; exact h1) u (by simpa using hu')) (by unfold maxLen; omega) (by omega) hbase ?_
  intro v' w' hr hg _
  refine h v' w' ?_ hg
  unfold OwnD
  rw [List.length_append, List.flatMap_append]
  simpa using hr

/-- A deed's bytes, cut: where they lie. -/
def cutW (p : Deed × Value) : Value := match p.2 with | .slice ap _ cap => .slice ap (p.1.b.take 2000).length cap | v => v
def cutP (p : Deed × Value) : Deed × Value := (⟨p.1.kind, p.1.a, p.1.n, p.1.draw, p.1.b.take 2000⟩, cutW p)
end Go.Proofs.YtdinkdmkbfbjbaaGreatDoor
namespace Go.Proofs.YtdinkdmkbfbjbaaGreatDoor
open Go.RowKit
attribute [local go_sem] fold_part fold_some fold_some' partAt_zero

structure Conf where
  c0 : Int
  c1 : Int
  c2 : Int
  c3 : Int
  c4 : Int
structure Conf.Fits (c : Conf) : Prop where
  h0 : -9223372036854775808 ≤ c.c0 ∧ c.c0 ≤ 9223372036854775807
  h1 : -9223372036854775808 ≤ c.c1 ∧ c.c1 ≤ 9223372036854775807
  h2 : -9223372036854775808 ≤ c.c2 ∧ c.c2 ≤ 9223372036854775807
  h3 : -9223372036854775808 ≤ c.c3 ∧ c.c3 ≤ 9223372036854775807
  h4 : -9223372036854775808 ≤ c.c4 ∧ c.c4 ≤ 9223372036854775807
def Conf.list (c : Conf) : List Int := [c.c0, c.c1, c.c2, c.c3, c.c4]
def confV (c : Conf) : Value := .agg #[.int .i64 c.c0, .int .i64 c.c1, .int .i64 c.c2, .int .i64 c.c3, .int .i64 c.c4]
def headA (l : List Int) : Bs := l.flatMap fun n => 32 :: Lib.itoa n
def headC (c : Conf) : Bs := [119, 111, 114, 108, 100] ++ headA c.list
theorem headA_snoc (l : List Int) (n : Int) : headA (l ++ [n]) = headA l ++ (32 :: Lib.itoa n) := by simp [headA]
theorem headA_len : ∀ l : List Int, (∀ n ∈ l, -9223372036854775808 ≤ n ∧ n ≤ 9223372036854775807) → (headA l).length ≤ 31 * l.length
  | [], _ => by simp [headA]
  | n :: l, h => by
    have := itoa_len n (h n (by simp))
    have := headA_len l (fun m hm => h m (by simp [hm]))
    simp only [headA, List.flatMap_cons, List.length_append, List.length_cons] at this ⊢
    omega
theorem Conf.Fits.all {c : Conf} (h : c.Fits) : ∀ n ∈ c.list, -9223372036854775808 ≤ n ∧ n ≤ 9223372036854775807 := by
  intro n hn
  simp only [Conf.list, List.mem_cons, List.not_mem_nil, or_false] at hn
  rcases hn with rfl | rfl | rfl | rfl | rfl
  · exact h.h0
  · exact h.h1
  · exact h.h2
  · exact h.h3
  · exact h.h4
theorem headC_len {c : Conf} (h : c.Fits) : (headC c).length ≤ 200 := by
  have := headA_len c.list h.all
  simp only [headC, List.length_append, List.length_cons, List.length_nil]
  have e : c.list.length = 5 := rfl
  omega

set_option maxRecDepth 100000 in
set_option maxHeartbeats 3200000 in
theorem rhead (c : Conf) (hf : c.Fits) (w : World) :
    Calls Tryz.prog 13 #[confV c] w fun e w' => e = .returned (.string ⟨(headC c).toArray⟩) ∧ Kept NoBlock w w' := by
  have hn := fun n W (h : -9223372036854775808 ≤ n ∧ n ≤ 9223372036854775807) => rnumber n h W
  have hl := fun n (h : -9223372036854775808 ≤ n ∧ n ≤ 9223372036854775807) => itoa_len n h
  obtain ⟨a0, a1, a2, a3, a4⟩ := c
  obtain ⟨h0, h1, h2, h3, h4⟩ := hf
  simp only at h0 h1 h2 h3 h4
  have n0 := fun W => hn a0 W h0
  have l0 := hl a0 h0
  obtain ⟨S0, e0⟩ : ∃ S : ByteArray, S = ⟨(32 :: Lib.itoa a0).toArray⟩ := ⟨_, rfl⟩
  have s0 : S0.size ≤ 31 := by rw [str_size e0, List.length_cons]; omega
  rw [← e0] at n0
  have N0 := Lib.hid n0
  have E0 := Lib.hid e0
  have n1 := fun W => hn a1 W h1
  have l1 := hl a1 h1
  obtain ⟨S1, e1⟩ : ∃ S : ByteArray, S = ⟨(32 :: Lib.itoa a1).toArray⟩ := ⟨_, rfl⟩
  have s1 : S1.size ≤ 31 := by rw [str_size e1, List.length_cons]; omega
  rw [← e1] at n1
  have N1 := Lib.hid n1
  have E1 := Lib.hid e1
  have n2 := fun W => hn a2 W h2
  have l2 := hl a2 h2
  obtain ⟨S2, e2⟩ : ∃ S : ByteArray, S = ⟨(32 :: Lib.itoa a2).toArray⟩ := ⟨_, rfl⟩
  have s2 : S2.size ≤ 31 := by rw [str_size e2, List.length_cons]; omega
  rw [← e2] at n2
  have N2 := Lib.hid n2
  have E2 := Lib.hid e2
  have n3 := fun W => hn a3 W h3
  have l3 := hl a3 h3
  obtain ⟨S3, e3⟩ : ∃ S : ByteArray, S = ⟨(32 :: Lib.itoa a3).toArray⟩ := ⟨_, rfl⟩
  have s3 : S3.size ≤ 31 := by rw [str_size e3, List.length_cons]; omega
  rw [← e3] at n3
  have N3 := Lib.hid n3
  have E3 := Lib.hid e3
  have n4 := fun W => hn a4 W h4
  have l4 := hl a4 h4
  obtain ⟨S4, e4⟩ : ∃ S : ByteArray, S = ⟨(32 :: Lib.itoa a4).toArray⟩ := ⟨_, rfl⟩
  have s4 : S4.size ≤ 31 := by rw [str_size e4, List.length_cons]; omega
  rw [← e4] at n4
  have N4 := Lib.hid n4
  have E4 := Lib.hid e4
  clear hn hl h0 h1 h2 h3 h4 n0 l0 e0 n1 l1 e1 n2 l2 e2 n3 l3 e3 n4 l4 e4
  unfold confV
  simp only
  have hcells : ∀ W, Kept NoBlock (w.alloc (.cells #[.int .i64 a0, .int .i64 a1, .int .i64 a2, .int .i64 a3, .int .i64 a4] 27)) W →
      W.cell? ⟨w.heap.size, 0, none⟩ = some (.int .i64 a0) ∧ W.cell? ⟨w.heap.size, 1, none⟩ = some (.int .i64 a1) ∧ W.cell? ⟨w.heap.size, 2, none⟩ = some (.int .i64 a2) ∧ W.cell? ⟨w.heap.size, 3, none⟩ = some (.int .i64 a3) ∧ W.cell? ⟨w.heap.size, 4, none⟩ = some (.int .i64 a4) := fun W hk =>
    blk5 (T := 27) (hk.heap (heap_alloc_new w _) (fun h => h))
  have HCL := Lib.hid hcells
  have HKW := Lib.hid (Kept.allocd w (.cells #[.int .i64 a0, .int .i64 a1, .int .i64 a2, .int .i64 a3, .int .i64 a4] 27))
  clear hcells
  have z0 : ¬ (9223372036854775807 < 5 + S0.size) := by omega
  have z1 : ¬ (9223372036854775807 < 5 + S0.size + S1.size) := by omega
  have z2 : ¬ (9223372036854775807 < 5 + S0.size + S1.size + S2.size) := by omega
  have z3 : ¬ (9223372036854775807 < 5 + S0.size + S1.size + S2.size + S3.size) := by omega
  have z4 : ¬ (9223372036854775807 < 5 + S0.size + S1.size + S2.size + S3.size + S4.size) := by omega
  go_enter Tryz.func13, Tryz.ntmps13
  go_wp2_with fail
  generalize w.alloc (.cells #[.int .i64 a0, .int .i64 a1, .int .i64 a2, .int .i64 a3, .int .i64 a4] 27) = W1 at *
  refine wp_planC (fun W => Kept NoBlock W1 W) 27 [.flt 4, .flt 5, .flt 6, .flt 9, .flt 10, .flt 11, .flt 12, .flt 15, .flt 16, .flt 17, .flt 18, .flt 21, .flt 22, .flt 23, .seg [0, 1] 2, .flt 3, .seg [] 7, .flt 8, .seg [] 13, .flt 14, .seg [] 19, .flt 20, .seg [] 24] [25, 26] (by kernel_rfl) (by kernel_rfl) (fun _ _ _ dst _ h => by cases dst <;> exact h) (fun _ _ h => h.drewN _) (Kept.refl _ _) (fun q0 => ?_)
  simp only [wpPlanC, pick, List.filterMap_cons, List.filterMap_nil, List.getElem?_cons_succ, List.getElem?_cons_zero]
  iterate 14 (refine wpFloat_ex rfl ?_; apply Exists.intro; refine ⟨fun w' hw' => ?_, ?_⟩; (obtain ⟨u0, u1, u2, u3, u4⟩ := HCL.out w' hw'; go_simp; first | rfl | exact ⟨rfl, rfl⟩); simp only [Act.put, List.setIfInBounds_toArray, List.set_cons_succ, List.set_cons_zero])
  obtain ⟨d0, d1, d2, d3, d4⟩ := HCL.out _ (Kept.refl _ _)
  repeat (quiet_step (fail))
  refine wpQuiet_nil ?_
  rintro _ ⟨q1, rfl⟩
  go_wp2_with fail
  refine (N0.out _).mono ?_
  rintro e w2 ⟨rfl, hk⟩
  have HK0 := Lib.hid (((Kept.refl NoBlock W1).drewN _).trans hk)
  clear hk
  go_wp2_with fail
  refine Halt.mk ⟨.inr HK0.out, ?_⟩
  (refine wpFloat_ex rfl ?_; apply Exists.intro; refine ⟨fun w' hw' => ?_, ?_⟩; (go_simp; first | rfl | exact ⟨rfl, rfl⟩); simp only [Act.put, List.setIfInBounds_toArray, List.set_cons_succ, List.set_cons_zero])
  clear d0 d1 d2 d3 d4
  go_wp2_with fail
  refine (N1.out _).mono ?_
  rintro e w3 ⟨rfl, hk⟩
  have HK1 := Lib.hid (HK0.out.trans hk)
  clear hk
  go_wp2_with fail
  refine Halt.mk ⟨.inr HK1.out, ?_⟩
  (refine wpFloat_ex rfl ?_; apply Exists.intro; refine ⟨fun w' hw' => ?_, ?_⟩; (go_simp; first | rfl | exact ⟨rfl, rfl⟩); simp only [Act.put, List.setIfInBounds_toArray, List.set_cons_succ, List.set_cons_zero])
  go_wp2_with fail
  refine (N2.out _).mono ?_
  rintro e w4 ⟨rfl, hk⟩
  have HK2 := Lib.hid (HK1.out.trans hk)
  clear hk
  go_wp2_with fail
  refine Halt.mk ⟨.inr HK2.out, ?_⟩
  (refine wpFloat_ex rfl ?_; apply Exists.intro; refine ⟨fun w' hw' => ?_, ?_⟩; (go_simp; first | rfl | exact ⟨rfl, rfl⟩); simp only [Act.put, List.setIfInBounds_toArray, List.set_cons_succ, List.set_cons_zero])
  go_wp2_with fail
  refine (N3.out _).mono ?_
  rintro e w5 ⟨rfl, hk⟩
  have HK3 := Lib.hid (HK2.out.trans hk)
  clear hk
  go_wp2_with fail
  refine Halt.mk ⟨.inr HK3.out, ?_⟩
  (refine wpFloat_ex rfl ?_; apply Exists.intro; refine ⟨fun w' hw' => ?_, ?_⟩; (go_simp; first | rfl | exact ⟨rfl, rfl⟩); simp only [Act.put, List.setIfInBounds_toArray, List.set_cons_succ, List.set_cons_zero])
  go_wp2_with fail
  refine (N4.out _).mono ?_
  rintro e w6 ⟨rfl, hk⟩
  have HK4 := Lib.hid (HK3.out.trans hk)
  clear hk
  go_wp2_with fail
  refine Halt.mk ⟨.inr HK4.out, ?_⟩
  repeat (quiet_step (fail))
  refine wpQuiet_nil ?_
  rintro _ ⟨q6, rfl⟩
  go_wp2_with fail
  go_ret
  refine ⟨?_, HKW.out.trans (HK4.out.drewN _)⟩
  rw [E0.out, E1.out, E2.out, E3.out, E4.out]
  show Ending.returned (.string ((((((⟨#[119, 111, 114, 108, 100]⟩ : ByteArray) ++ ⟨(32 :: Lib.itoa a0).toArray⟩) ++ ⟨(32 :: Lib.itoa a1).toArray⟩) ++ ⟨(32 :: Lib.itoa a2).toArray⟩) ++ ⟨(32 :: Lib.itoa a3).toArray⟩) ++ ⟨(32 :: Lib.itoa a4).toArray⟩)) = _
  rw [show (⟨#[119, 111, 114, 108, 100]⟩ : ByteArray) = ⟨([119, 111, 114, 108, 100] : Bs).toArray⟩ from rfl]
  simp only [str_app]
  simp [headC, headA, Conf.list]
end Go.Proofs.YtdinkdmkbfbjbaaGreatDoor
namespace Go.Proofs.YtdinkdmkbfbjbaaGreatDoor
open Go.RowKit
attribute [local go_sem] fold_part fold_some fold_some' partAt_zero

def badT (d : Deed) : Bool := decide ((textD d).2 ≠ 0)
def FitsL (ps : List (Deed × Value)) : Prop := ∀ p ∈ ps, p.1.Fits

theorem textD_code (d : Deed) : (textD d).2 = 0 ∨ (textD d).2 = 251 := by unfold textD; split; exact .inr rfl; split; exact .inl rfl; exact .inr rfl

end Go.Proofs.YtdinkdmkbfbjbaaGreatDoor
namespace Go.Proofs.YtdinkdmkbfbjbaaGreatDoor
open Go.RowKit
attribute [local go_sem] fold_part fold_some fold_some' partAt_zero

def headP (c : Conf) (i : Nat) : Bs := [119, 111, 114, 108, 100] ++ headA (c.list.take i)
theorem headP_full (c : Conf) : headP c 5 = headC c := rfl
theorem headP_len {c : Conf} (h : c.Fits) (i : Nat) : (headP c i).length ≤ 200 := by
  have := headA_len (c.list.take i) (fun n hn => h.all n (List.mem_of_mem_take hn))
  have e : (c.list.take i).length ≤ 5 := by rw [List.length_take]; exact Nat.le_trans (Nat.min_le_right _ _) (Nat.le_refl 5)
  simp only [headP, List.length_append, List.length_cons, List.length_nil]
  omega

set_option maxRecDepth 100000 in
set_option maxHeartbeats 3200000 in
theorem phead (c : Conf) (hf : c.Fits) (w : World) (hV : Vs w) :
    Calls Tryz.prog 20 #[confV c] w fun e w' => e = .returned (.string ⟨(headC c).toArray⟩) ∧ Kept NoBlock w w' := by
  have hn := fun n W (h : -9223372036854775808 ≤ n ∧ n ≤ 9223372036854775807) (hk : Kept NoBlock w W) => (ntext n h.1 h.2 W (hV.below hk.toB)).mono (R' := fun e w' => e = .returned (.string ⟨(Lib.itoa n).toArray⟩) ∧ Kept NoBlock W w') (fun _ _ ⟨e, h⟩ => ⟨e, Kept.ofB h⟩)
  have hall := hf.all
  have hpl := headP_len hf
  have hil := fun n (h : -9223372036854775808 ≤ n ∧ n ≤ 9223372036854775807) => itoa_len n h
  have HNT := Lib.hid hn
  have HALL := Lib.hid hall
  have HPL := Lib.hid hpl
  have HIL := Lib.hid hil
  clear hn hall hpl hil hf hV
  have hW2 := heap_alloc_new (w.alloc (.cells #[.int .i64 c.c0, .int .i64 c.c1, .int .i64 c.c2, .int .i64 c.c3, .int .i64 c.c4] 27)) (.cells #[.int .i64 c.c0, .int .i64 c.c1, .int .i64 c.c2, .int .i64 c.c3, .int .i64 c.c4] 3)
  rw [World.size_alloc] at hW2
  have HW2 := Lib.hid hW2
  have HK2 := Lib.hid ((Kept.allocd w (.cells #[.int .i64 c.c0, .int .i64 c.c1, .int .i64 c.c2, .int .i64 c.c3, .int .i64 c.c4] 27)).alloc (.cells #[.int .i64 c.c0, .int .i64 c.c1, .int .i64 c.c2, .int .i64 c.c3, .int .i64 c.c4] 3))
  clear hW2
  unfold confV
  go_enter Tryz.func20, Tryz.ntmps20
  go_wp2
  generalize (w.alloc (.cells #[.int .i64 c.c0, .int .i64 c.c1, .int .i64 c.c2, .int .i64 c.c3, .int .i64 c.c4] 27)).alloc (.cells #[.int .i64 c.c0, .int .i64 c.c1, .int .i64 c.c2, .int .i64 c.c3, .int .i64 c.c4] 3) = W2 at *
  go_loopw [3, 24] (fun vs vi wr => ∃ i : Nat, vi = .int .i64 i ∧ i ≤ 5 ∧ vs = .string ⟨(headP c i).toArray⟩ ∧ Kept NoBlock W2 wr) (fun _ vi _ => 5 - (intOf vi).toNat)
  case atStart => exact ⟨0, rfl, by decide, rfl, Kept.refl _ _⟩
  case round =>
    obtain ⟨i, rfl, hi, rfl, hK⟩ := hrel
    have HK := Lib.hid hK
    clear hK
    by_cases hlt : i < 5
    · have hltI : (i : Int) < 5 := by omega
      obtain ⟨n, hn⟩ : ∃ n, c.list[i]? = some n := ⟨c.list[i]'hlt, List.getElem?_eq_getElem hlt⟩
      have hcell : wr.cell? ⟨w.heap.size + 1, i, none⟩ = some (.int .i64 n) := by
        refine cellB (HK.out.heap HW2.out (fun h => h)) ?_
        have : (#[Value.int .i64 c.c0, .int .i64 c.c1, .int .i64 c.c2, .int .i64 c.c3, .int .i64 c.c4] : Array Value) = (c.list.map (Value.int .i64)).toArray := rfl
        rw [this]
        simp [hn]
      have hr := HALL.out n (List.mem_of_getElem? hn)
      have hst : headP c (i + 1) = headP c i ++ ([32] ++ Lib.itoa n) := by
        unfold headP
        rw [List.take_add_one, hn]
        simp [headA]
      have hs := HPL.out i
      obtain ⟨S, hS⟩ : ∃ S : ByteArray, S = ⟨(headP c i).toArray⟩ := ⟨_, rfl⟩
      have hSz : S.size ≤ 200 := by rw [str_size hS]; exact hs
      have ht := HNT.out n
      have hl := HIL.out n hr
      obtain ⟨A, hA⟩ : ∃ A : ByteArray, A = ⟨(Lib.itoa n).toArray⟩ := ⟨_, rfl⟩
      have hAz : A.size ≤ 30 := by rw [str_size hA]; exact hl
      rw [← hA] at ht
      rw [← hS]
      have HR := Lib.hid hr
      have HT := Lib.hid ht
      have HS := Lib.hid hS
      have HA := Lib.hid hA
      have HST := Lib.hid hst
      clear hn hr ht hS hA hst hs hl
      go_wp2_with fail
      refine (HT.out _ HR.out (HK2.out.trans HK.out)).mono ?_
      rintro e w3 ⟨rfl, hk⟩
      have HK3 := Lib.hid (HK.out.trans hk)
      clear hk hcell
      go_wp2
      go_roundw
      case rel =>
        refine ⟨i + 1, by go_num, by omega, ?_, HK3.out⟩
        rw [HST.out, HS.out, HA.out]
        show Value.string ((⟨(headP c i).toArray⟩ : ByteArray) ++ ((⟨([32] : Bs).toArray⟩ : ByteArray) ++ ⟨(Lib.itoa n).toArray⟩)) = _
        rw [str_app, str_app]
      case measure => simp [intOf]; omega
    · obtain rfl : i = 5 := by omega
      rw [headP_full]
      go_wp2
      go_ret
      exact ⟨rfl, HK2.out.trans HK.out⟩
end Go.Proofs.YtdinkdmkbfbjbaaGreatDoor
namespace Go.Proofs.YtdinkdmkbfbjbaaGreatDoor
open Go.RowKit
attribute [local go_sem] fold_part fold_some fold_some' partAt_zero

def linesA (L : List Deed) : Bs := L.flatMap fun d => lineD d ++ [10]
/-- A script's text and its code. -/
def printD (c : Conf) (L : List Deed) : Bs × Int := if (L.any badT) = true then ([], 251) else (headC c ++ [10] ++ linesA L, 0)
theorem lineD_len {d : Deed} (h : d.Fits) : (lineD d).length ≤ 36200 := by
  obtain ⟨k, a, n, dr, b⟩ := d
  obtain ⟨hk, ha, hn, hdr, hbl⟩ := h
  simp only at ha hn hdr hbl
  have hla := itoa_len a ha
  have hln := itoa_len n hn
  have hld := dec_len dr hdr
  have hlq : (quote b).length ≤ 36010 := by have := (quoteA_len b).2; simp only [quote, List.length_cons, List.length_append, List.length_nil]; omega
  unfold lineD
  simp only
  repeat (split; (simp only [List.length_append, List.length_cons, List.length_nil]; omega))
  simp
theorem linesA_len : ∀ L : List Deed, (∀ d ∈ L, d.Fits) → (linesA L).length ≤ 36201 * L.length
  | [], _ => by simp [linesA]
  | d :: L, h => by
    have := lineD_len (h d (by simp))
    have := linesA_len L (fun m hm => h m (by simp [hm]))
    simp only [linesA, List.flatMap_cons, List.length_append, List.length_cons, List.length_nil] at this ⊢
    omega
theorem linesA_snoc (L : List Deed) (d : Deed) : linesA (L ++ [d]) = linesA L ++ (lineD d ++ [10]) := by simp [linesA]

theorem any_fst (ps : List (Deed × Value)) : (ps.any fun p => badT p.1) = (ps.map (·.1)).any badT := by rw [List.any_map]; rfl

end Go.Proofs.YtdinkdmkbfbjbaaGreatDoor
namespace Go.Proofs.YtdinkdmkbfbjbaaGreatDoor
open Go.RowKit

def pieces (c : UInt8) (l : Bs) : List Bs := Lib.splitK [c] 0 (Lib.count l [c]) l

theorem index_app {c : UInt8} {x : Bs} (h : ∀ b ∈ x, b ≠ c) (y : Bs) : Lib.index (x ++ c :: y) [c] = (x.length : Int) := by
  induction x with
  | nil => rw [List.nil_append, index_one_cons, if_pos rfl]; rfl
  | cons b x ih =>
    have hb := h b (by simp)
    have hi := ih (fun d hd => h d (by simp [hd]))
    rw [List.cons_append, index_one_cons, if_neg hb, hi, if_neg (by omega)]
    simp
theorem index_no {c : UInt8} {x : Bs} (h : ∀ b ∈ x, b ≠ c) : Lib.index x [c] = -1 := by
  induction x with
  | nil => rfl
  | cons b x ih =>
    have hb := h b (by simp)
    rw [index_one_cons, if_neg hb, ih (fun d hd => h d (by simp [hd])), if_pos rfl]
theorem pieces_hit {c : UInt8} {x : Bs} (h : ∀ b ∈ x, b ≠ c) (y : Bs) : pieces c (x ++ c :: y) = x :: pieces c y := by
  unfold pieces
  have e : Lib.count (x ++ c :: y) [c] = Lib.count y [c] + 1 := by
    rw [Lib.count_one, Lib.count_one, List.count_append, List.count_cons_self]
    have : List.count c x = 0 := List.count_eq_zero.2 (fun hm => h c hm rfl)
    omega
  rw [e, Lib.splitK, index_app h]
  have h0 : (((x.length : Nat) : Int) == -1) = false := by rw [beq_eq_false_iff_ne]; omega
  rw [h0]
  simp
theorem pieces_miss {c : UInt8} {x : Bs} (h : ∀ b ∈ x, b ≠ c) : pieces c x = [x] := by
  unfold pieces
  have e : Lib.count x [c] = 0 := by rw [Lib.count_one]; exact List.count_eq_zero.2 (fun hm => h c hm rfl)
  rw [e]; rfl

def confOf (f : Nat → Int) : Conf := ⟨f 0, f 1, f 2, f 3, f 4⟩
/-- What the program looks at. -/
noncomputable def candS (s : Bs) : Conf := confOf fun i => (parseV ((pieces 32 s).getD (i + 1) [])).1
/-- What the document looks at. -/
def candT (s : Bs) : Conf := confOf fun i => (refV ((wordsF 5 [] s).getD (i + 1) [])).1
noncomputable def settingsP (s : Bs) : Option Conf := if (pieces 32 s).length = 6 ∧ headC (candS s) = s then some (candS s) else none
def settingsR (s : Bs) : Option Conf := if headC (candT s) = s then some (candT s) else none

theorem candS_fits (s : Bs) : (candS s).Fits := ⟨parseV_in _, parseV_in _, parseV_in _, parseV_in _, parseV_in _⟩
theorem candT_fits (s : Bs) : (candT s).Fits := ⟨refV_in _, refV_in _, refV_in _, refV_in _, refV_in _⟩

theorem head_form (c : Conf) : headC c = [119, 111, 114, 108, 100] ++ 32 :: (Lib.itoa c.c0 ++ 32 :: (Lib.itoa c.c1 ++ 32 :: (Lib.itoa c.c2 ++ 32 :: (Lib.itoa c.c3 ++ 32 :: Lib.itoa c.c4)))) := by
  simp [headC, headA, Conf.list]
theorem pieces_head (c : Conf) : pieces 32 (headC c) = [[119, 111, 114, 108, 100], Lib.itoa c.c0, Lib.itoa c.c1, Lib.itoa c.c2, Lib.itoa c.c3, Lib.itoa c.c4] := by
  rw [head_form, pieces_hit (by decide), pieces_hit (itoa_32 _), pieces_hit (itoa_32 _), pieces_hit (itoa_32 _), pieces_hit (itoa_32 _), pieces_miss (itoa_32 _)]
theorem words_head (c : Conf) : wordsF 5 [] (headC c) = [[119, 111, 114, 108, 100], Lib.itoa c.c0, Lib.itoa c.c1, Lib.itoa c.c2, Lib.itoa c.c3, Lib.itoa c.c4] := by
  rw [head_form, wordsF_hit (by decide), wordsF_hit (itoa_32 _), wordsF_hit (itoa_32 _), wordsF_hit (itoa_32 _), wordsF_hit (itoa_32 _), wordsF_zero]
  simp
theorem candS_head (c : Conf) (h : c.Fits) : candS (headC c) = c := by
  obtain ⟨h0, h1, h2, h3, h4⟩ := h
  unfold candS confOf
  rw [pieces_head]
  obtain ⟨c0, c1, c2, c3, c4⟩ := c
  simp only at h0 h1 h2 h3 h4
  simp [parseV_itoa _ h0.1 h0.2, parseV_itoa _ h1.1 h1.2, parseV_itoa _ h2.1 h2.2, parseV_itoa _ h3.1 h3.2, parseV_itoa _ h4.1 h4.2]
theorem candT_head (c : Conf) (h : c.Fits) : candT (headC c) = c := by
  obtain ⟨h0, h1, h2, h3, h4⟩ := h
  unfold candT confOf
  rw [words_head]
  obtain ⟨c0, c1, c2, c3, c4⟩ := c
  simp only at h0 h1 h2 h3 h4
  simp [ref_itoa _ h0.1 h0.2, ref_itoa _ h1.1 h1.2, ref_itoa _ h2.1 h2.2, ref_itoa _ h3.1 h3.2, ref_itoa _ h4.1 h4.2]
theorem settings_head (c : Conf) (h : c.Fits) : settingsP (headC c) = some c := by
  unfold settingsP
  rw [candS_head c h, if_pos ⟨by rw [pieces_head]; rfl, rfl⟩]
theorem settingsP_some {s : Bs} {c : Conf} (h : settingsP s = some c) : c.Fits ∧ headC c = s := by
  unfold settingsP at h
  split at h
  · rename_i hc
    cases h
    exact ⟨candS_fits s, hc.2⟩
  · cases h
theorem settingsR_some {s : Bs} {c : Conf} (h : settingsR s = some c) : c.Fits ∧ headC c = s := by
  unfold settingsR at h
  split at h
  · rename_i hc
    cases h
    exact ⟨candT_fits s, hc⟩
  · cases h
/-- Both are one. -/
theorem settingsR_P (s : Bs) : settingsR s = settingsP s := by
  cases hp : settingsP s with
  | some c =>
    obtain ⟨hf, rfl⟩ := settingsP_some hp
    unfold settingsR
    rw [candT_head c hf, if_pos rfl]
  | none =>
    cases hr : settingsR s with
    | none => rfl
    | some c =>
      obtain ⟨hf, rfl⟩ := settingsR_some hr
      rw [settings_head c hf] at hp
      cases hp

/-! Lines. -/

/-- Whole lines, and what is behind the last one. -/
def linesF : Bs → Bs → List Bs × Bs
  | cur, [] => ([], cur)
  | cur, c :: r => if c = 10 then (cur :: (linesF [] r).1, (linesF [] r).2) else linesF (cur ++ [c]) r
def linesS (s : Bs) : List Bs × Bs := linesF [] s

theorem linesF_cut : ∀ (s cur : Bs), linesF cur s = if (cutB 10 s).2.2 = true then ((cur ++ (cutB 10 s).1) :: (linesS (cutB 10 s).2.1).1, (linesS (cutB 10 s).2.1).2) else ([], cur ++ s)
  | [], cur => by simp [linesF, cutB]
  | c :: r, cur => by
    rw [linesF, cutB]
    by_cases h : c = 10
    · simp [h, linesS]
    · rw [if_neg h, if_neg h, linesF_cut r]
      simp
theorem linesS_cut (s : Bs) : linesS s = if (cutB 10 s).2.2 = true then ((cutB 10 s).1 :: (linesS (cutB 10 s).2.1).1, (linesS (cutB 10 s).2.1).2) else ([], s) := by
  unfold linesS
  rw [linesF_cut]
  simp [linesS]

/-- Deeds of lines; or which line is the first that has none. -/
noncomputable def goOver : Nat → List Bs → List Deed → Except Nat (List Deed)
  | _, [], ds => .ok ds
  | n, l :: ls, ds => match parseP l with | some d => goOver (n + 1) ls (ds ++ [d]) | none => .error n
/-- A script of a text; or which line is wrong. -/
noncomputable def readD (s : Bs) : Except Nat (Conf × List Deed) :=
  match (linesS s).1 with
  | [] => .error 0
  | l :: ls => match settingsP l with
    | none => .error 0
    | some c => match goOver 1 ls [] with
      | .error n => .error n
      | .ok ds => if (linesS s).2 = [] then .ok (c, ds) else .error (ls.length + 1)
end Go.Proofs.YtdinkdmkbfbjbaaGreatDoor
namespace Go.Proofs.YtdinkdmkbfbjbaaGreatDoor
open Go.RowKit
attribute [local go_sem] fold_part fold_some fold_some' partAt_zero

theorem psplit (l : Bs) (hl : l.length ≤ 1000000000) (c : UInt8) (w : World) (hM : Mx w) :
    Calls Tryz.prog 18 #[.string ⟨l.toArray⟩, .string ⟨#[c]⟩] w fun e w' => e = .returned (.slice (some ⟨w.heap.size, 0, none⟩) (pieces c l).length (pieces c l).length) ∧ w' = w.alloc (.cells ((pieces c l).map strV).toArray 9) := by
  obtain ⟨m, hm⟩ := hM
  refine (Tryz.strings_Split ⟨l.toArray⟩ ⟨#[c]⟩ m w (by rw [str_size rfl]; omega) hm (Nat.le_refl 1)).mono ?_
  have e1 : (Lib.splitB ⟨#[c]⟩ 0 (Lib.countB ⟨l.toArray⟩ ⟨#[c]⟩) ⟨l.toArray⟩).map (·.data.toList) = pieces c l := by rw [Lib.splitB_data]; rfl
  have e2 : (Lib.splitB ⟨#[c]⟩ 0 (Lib.countB ⟨l.toArray⟩ ⟨#[c]⟩) ⟨l.toArray⟩).length = Lib.countB ⟨l.toArray⟩ ⟨#[c]⟩ + 1 := Lib.splitB_all ⟨#[c]⟩ (Nat.le_refl 1) 0 _ _ rfl
  have e3 : (Lib.splitB ⟨#[c]⟩ 0 (Lib.countB ⟨l.toArray⟩ ⟨#[c]⟩) ⟨l.toArray⟩).map Value.string = (pieces c l).map strV := by
    rw [← e1, List.map_map]
    refine List.map_congr_left fun x _ => ?_
    show Value.string x = Value.string ⟨x.data.toList.toArray⟩
    rw [Array.toArray_toList]
  have e4 : (pieces c l).length = Lib.countB ⟨l.toArray⟩ ⟨#[c]⟩ + 1 := by rw [← e1, List.length_map, e2]
  rw [e3, ← e4]
  rintro e w' ⟨rfl, rfl⟩
  exact ⟨rfl, rfl⟩

def zeroConf : Conf := ⟨0, 0, 0, 0, 0⟩
/-- The first i of them. -/
def upTo (c : Conf) (i : Nat) : Array Value := #[.int .i64 (if 0 < i then c.c0 else 0), .int .i64 (if 1 < i then c.c1 else 0), .int .i64 (if 2 < i then c.c2 else 0), .int .i64 (if 3 < i then c.c3 else 0), .int .i64 (if 4 < i then c.c4 else 0)]
def Conf.at (c : Conf) (i : Nat) : Int := c.list.getD i 0
theorem upTo_next (c : Conf) (i : Nat) (h : i < 5) : (upTo c i).setIfInBounds i (.int .i64 (c.at i)) = upTo c (i + 1) := by
  rcases (by omega : i = 0 ∨ i = 1 ∨ i = 2 ∨ i = 3 ∨ i = 4) with rfl | rfl | rfl | rfl | rfl <;> rfl

theorem heap_own5_ne {w : World} {o : Option Obj} {g k : Nat} (h : w.heap[k]? = o) (hne : ¬ (k = g)) (v0 v1 v2 v3 v4 : Value) :
    (((((w.setCell ⟨g, 0, none⟩ v0).setCell ⟨g, 1, none⟩ v1).setCell ⟨g, 2, none⟩ v2).setCell ⟨g, 3, none⟩ v3).setCell ⟨g, 4, none⟩ v4).heap[k]? = o :=
  heap_set_ne (heap_set_ne (heap_set_ne (heap_set_ne (heap_set_ne h hne) hne) hne) hne) hne

/-- What 'settings' leaves. -/
def SetEnd (s : Bs) (w : World) (e : Ending) (w' : World) : Prop :=
  Kept NoBlock w w' ∧ ∃ (c : Conf) (ok : Bool), e = .returned (.tuple #[confV c, .bool ok]) ∧ (match settingsP s with | some d => ok = true ∧ c = d | none => ok = false)

theorem set_some {s : Bs} {c : Conf} {w w' : World} (h : settingsP s = some c) (hk : Kept NoBlock w w') : SetEnd s w (.returned (.tuple #[confV c, .bool true])) w' := ⟨hk, c, true, rfl, by rw [h]; exact ⟨rfl, rfl⟩⟩
theorem set_none {s : Bs} {c : Conf} {w w' : World} (h : settingsP s = none) (hk : Kept NoBlock w w') : SetEnd s w (.returned (.tuple #[confV c, .bool false])) w' := ⟨hk, c, false, rfl, by rw [h]⟩

theorem splitK_len (sep : Bs) : ∀ (k : Nat) (s x : Bs), x ∈ Lib.splitK sep 0 k s → x.length ≤ s.length
  | 0, s, x, h => by
    obtain rfl := List.mem_singleton.1 h
    exact Nat.le_refl _
  | k + 1, s, x, h => by
    rw [Lib.splitK] at h
    split at h
    · obtain rfl := List.mem_singleton.1 h
      exact Nat.le_refl _
    · rcases List.mem_cons.1 h with rfl | h
      · rw [List.length_take]; omega
      · have := splitK_len sep k _ x h
        rw [List.length_drop] at this
        omega
theorem pieces_len {c : UInt8} {s x : Bs} (h : x ∈ pieces c s) : x.length ≤ s.length := splitK_len _ _ _ _ h

set_option maxRecDepth 100000 in
set_option maxHeartbeats 3200000 in
theorem psettings (s : Bs) (hs : s.length ≤ 9000) (w : World) (hV : Vs w) (hM : Mx w) :
    Calls Tryz.prog 9 #[.string ⟨s.toArray⟩] w (SetEnd s w) := by
  have hsp := fun W (hk : Kept NoBlock w W) => psplit s (by omega) 32 W (hM.kept hk)
  have hwh := fun x (hx : x ∈ pieces 32 s) W (hk : Kept NoBlock w W) => pwhole x (by have := pieces_len hx; omega) W (hV.below hk.toB)
  have hhd := fun W (hk : Kept NoBlock w W) => phead (candS s) (candS_fits s) W (hV.below hk.toB)
  have hsome : (pieces 32 s).length = 6 → headC (candS s) = s → settingsP s = some (candS s) := fun h1 h2 => if_pos ⟨h1, h2⟩
  have hnone : (pieces 32 s).length ≠ 6 ∨ headC (candS s) ≠ s → settingsP s = none := fun h => if_neg (fun h2 => h.elim (fun a => a h2.1) (fun a => a h2.2))
  have hat : ∀ i, i < 5 → (candS s).at i = (parseV ((pieces 32 s).getD (i + 1) [])).1 := fun i hi => by
    rcases (by omega : i = 0 ∨ i = 1 ∨ i = 2 ∨ i = 3 ∨ i = 4) with rfl | rfl | rfl | rfl | rfl <;> rfl
  obtain ⟨S, hS⟩ : ∃ S : ByteArray, S = ⟨s.toArray⟩ := ⟨_, rfl⟩
  rw [← hS] at hsp ⊢
  have HSP := Lib.hid hsp
  have HWH := Lib.hid hwh
  have HHD := Lib.hid hhd
  have HSOME := Lib.hid hsome
  have HNONE := Lib.hid hnone
  have HAT := Lib.hid hat
  have HS := Lib.hid hS
  clear hsp hwh hhd hsome hnone hat hS hs hV hM
  generalize hP : pieces 32 s = P at *
  clear hP
  generalize candS s = C at *
  have HK1 := Lib.hid (Kept.allocd w (.cells #[.int .i64 0, .int .i64 0, .int .i64 0, .int .i64 0, .int .i64 0] 27))
  have HG1 := Lib.hid (heap_alloc_new w (.cells #[.int .i64 0, .int .i64 0, .int .i64 0, .int .i64 0, .int .i64 0] 27))
  go_enter Tryz.func9, Tryz.ntmps9
  go_wp2_with fail
  generalize w.alloc (.cells #[.int .i64 0, .int .i64 0, .int .i64 0, .int .i64 0, .int .i64 0] 27) = W1 at *
  refine (HSP.out _ HK1.out).mono ?_
  rintro e w2 ⟨rfl, rfl⟩
  have HK2 := Lib.hid (HK1.out.alloc (.cells (P.map strV).toArray 9))
  have HG2 := Lib.hid ((Kept.allocd W1 (.cells (P.map strV).toArray 9)).heap HG1.out (fun h => h))
  have HR2 := Lib.hid (heap_alloc_new W1 (.cells (P.map strV).toArray 9))
  have hw1 : w.heap.size < W1.heap.size := lt_of_heap HG1.out
  generalize W1.alloc (.cells (P.map strV).toArray 9) = W2 at *
  by_cases h6 : P.length = 6
  · obtain ⟨g, hg⟩ : ∃ g, g = W1.heap.size := ⟨_, rfl⟩
    rw [← hg] at HR2 hw1 ⊢
    have hgl : g < W2.heap.size := lt_of_heap HR2.out
    rw [h6]
    clear HG1 HK1 hg
    have HK3 := Lib.hid (HK2.out.alloc (.cells #[.int .i64 0, .int .i64 0, .int .i64 0, .int .i64 0, .int .i64 0] 58))
    have HG3 := Lib.hid ((Kept.allocd W2 (.cells #[.int .i64 0, .int .i64 0, .int .i64 0, .int .i64 0, .int .i64 0] 58)).heap HG2.out (fun h => h))
    have HR3 := Lib.hid ((Kept.allocd W2 (.cells #[.int .i64 0, .int .i64 0, .int .i64 0, .int .i64 0, .int .i64 0] 58)).heap HR2.out (fun h => h))
    have HA3 := Lib.hid (heap_alloc_new W2 (.cells #[.int .i64 0, .int .i64 0, .int .i64 0, .int .i64 0, .int .i64 0] 58))
    go_wp2_with fail
    generalize W2.alloc (.cells #[.int .i64 0, .int .i64 0, .int .i64 0, .int .i64 0, .int .i64 0] 58) = W3 at *
    generalize W2.heap.size = ga at *
    have hne1 : ¬ (g = ga) := by omega
    have hne2 : ¬ (w.heap.size = ga) := by omega
    go_loopw [14] (fun vi wr => ∃ i : Nat, vi = .int .i64 i ∧ i ≤ 5 ∧ wr.heap[ga]? = some (.cells (upTo C i) 58 (0, 0)) ∧ Kept (fun k => k = ga) W3 wr) (fun vi _ => 5 - (intOf vi).toNat)
    case atStart => exact ⟨0, rfl, by decide, HA3.out, Kept.refl _ _⟩
    case round =>
      obtain ⟨i, rfl, hi, ha, hk⟩ := hrel
      have HA := Lib.hid ha
      have HK := Lib.hid hk
      have HKw := Lib.hid (Kept.trans' (S := NoBlock) HK3.out hk (fun k hk2 e => by subst e; omega))
      clear ha hk
      by_cases hlt : i < 5
      · have hltI : (i : Int) < 5 := by omega
        obtain ⟨x, hx⟩ : ∃ x, P[i + 1]? = some x := ⟨P[i + 1], List.getElem?_eq_getElem (by omega)⟩
        have hxm := List.mem_of_getElem? hx
        have hcx : wr.cell? ⟨g, i + 1, none⟩ = some (strV x) := cellB (HK.out.heap HR3.out hne1) (by simp [hx])
        have hat : (parseV x).1 = C.at i := by rw [HAT.out i hlt, List.getD_eq_getElem?_getD, hx]; rfl
        have hcall := HWH.out x hxm
        have hup := upTo_next C i hlt
        have hfz := fun j => frozenB HA.out j
        have hold : wr.cell? ⟨ga, i, none⟩ = some (.int .i64 0) := by
          refine cellB HA.out ?_
          rcases (by omega : i = 0 ∨ i = 1 ∨ i = 2 ∨ i = 3 ∨ i = 4) with rfl | rfl | rfl | rfl | rfl <;> rfl
        unfold strV at hcx
        generalize parseV x = PV at *
        generalize (⟨x.toArray⟩ : ByteArray) = X at *
        obtain ⟨p1, p2⟩ := PV
        simp only at hat hcall
        subst hat
        have HC := Lib.hid hcall
        have HUP := Lib.hid hup
        clear hx hxm hcall hup
        go_wp2_with fail
        refine (HC.out _ HKw.out).mono ?_
        rintro e w4 ⟨rfl, hk4⟩
        have ha4 := hk4.heap HA.out (fun h => h)
        have HA4 := Lib.hid ha4
        have HK4 := Lib.hid (Kept.trans (S := fun k => k = ga) HK.out hk4.anyS)
        have hold4 : w4.cell? ⟨ga, i, none⟩ = some (.int .i64 0) := by
          refine cellB ha4 ?_
          rcases (by omega : i = 0 ∨ i = 1 ∨ i = 2 ∨ i = 3 ∨ i = 4) with rfl | rfl | rfl | rfl | rfl <;> rfl
        have hfz4 := fun j => frozenB ha4 j
        clear hk4 ha4 hcx hold hfz
        go_wp2_with fail
        go_roundw
        case rel =>
          refine ⟨i + 1, by go_num, by omega, ?_, HK4.out.setCell (p := ⟨ga, i, none⟩) (fun _ => rfl) _⟩
          rw [← HUP.out]
          exact heap_setCell_same HA4.out i _
        case measure => simp [intOf]; omega
      · obtain rfl : i = 5 := by omega
        have ha := HA.out
        rw [show upTo C 5 = #[.int .i64 C.c0, .int .i64 C.c1, .int .i64 C.c2, .int .i64 C.c3, .int .i64 C.c4] from rfl] at ha
        obtain ⟨a0, a1, a2, a3, a4⟩ := blk5 ha
        have hg1 := HK.out.heap HG3.out hne2
        have HKo := Lib.hid HKw.out
        have HG4 := Lib.hid ((Kept.allocd wr (.cells #[.int .i64 C.c0, .int .i64 C.c1, .int .i64 C.c2, .int .i64 C.c3, .int .i64 C.c4] 27)).heap hg1 (fun h => h))
        have HK4 := Lib.hid (HKw.out.alloc (.cells #[.int .i64 C.c0, .int .i64 C.c1, .int .i64 C.c2, .int .i64 C.c3, .int .i64 C.c4] 27))
        have HC4 := Lib.hid (heap_alloc_new wr (.cells #[.int .i64 C.c0, .int .i64 C.c1, .int .i64 C.c2, .int .i64 C.c3, .int .i64 C.c4] 27))
        have hlt2 : w.heap.size < wr.heap.size := lt_of_heap hg1
        clear ha hg1
        go_wp2_with fail
        clear a0 a1 a2 a3 a4
        generalize wr.alloc (.cells #[.int .i64 C.c0, .int .i64 C.c1, .int .i64 C.c2, .int .i64 C.c3, .int .i64 C.c4] 27) = W5 at *
        generalize wr.heap.size = gb at *
        have hne5 : ¬ (gb = w.heap.size) := by omega
        have hne6 : ¬ (w.heap.size = gb) := by omega
        refine wp_planC (fun W => W.heap[gb]? = some (.cells #[.int .i64 C.c0, .int .i64 C.c1, .int .i64 C.c2, .int .i64 C.c3, .int .i64 C.c4] 27 (0, 0))) 7 [.flt 0, .flt 3, .seg [1] 2, .flt 4, .seg [] 5] [6] (by kernel_rfl) (by kernel_rfl) (fun _ _ _ dst _ h => by cases dst <;> exact h) (fun _ _ h => h) HC4.out (fun q0 => ?_)
        simp only [wpPlanC, pick, List.filterMap_cons, List.filterMap_nil, List.getElem?_cons_succ, List.getElem?_cons_zero]
        iterate 2 (refine wpFloat_ex rfl ?_; apply Exists.intro; refine ⟨fun w' hw' => ?_, ?_⟩; (obtain ⟨u0, u1, u2, u3, u4⟩ := blk5 hw'; go_simp; first | rfl | exact ⟨rfl, rfl⟩); simp only [Act.put, List.setIfInBounds_toArray, List.set_cons_succ, List.set_cons_zero])
        obtain ⟨d0, d1, d2, d3, d4⟩ := blk5 HC4.out
        repeat (quiet_step (fail))
        refine wpQuiet_nil ?_
        rintro _ ⟨q1, rfl⟩
        go_wp2_with fail
        obtain ⟨T, hT⟩ : ∃ T : ByteArray, T = ⟨(headC C).toArray⟩ := ⟨_, rfl⟩
        have hhd := HHD.out
        rw [← hT] at hhd
        unfold confV at hhd
        refine (hhd _ (HK4.out.drewN _)).mono ?_
        rintro e w6 ⟨rfl, hk6⟩
        have HK6 := Lib.hid ((HK4.out.drewN (q0 + q1)).trans hk6)
        have HG6 := Lib.hid (hk6.heap (a := W5.drewN (q0 + q1)) HG4.out (fun h => h))
        have HC6 := Lib.hid (hk6.heap (a := W5.drewN (q0 + q1)) HC4.out (fun h => h))
        have HTT := Lib.hid hT
        clear hk6 d0 d1 d2 d3 d4 hhd hT HHD
        go_wp2_with fail
        refine Halt.mk ⟨.inr HC6.out, ?_⟩
        by_cases hL : headC C = s
        · have hTS : T = S := by rw [HTT.out, HS.out, hL]
          have HSM := Lib.hid (HSOME.out h6 hL)
          subst hTS
          clear hL HTT HSOME HNONE
          (refine wpFloat_ex rfl ?_; apply Exists.intro; refine ⟨fun w' hw' => ?_, ?_⟩; (go_simp; first | rfl | exact ⟨rfl, rfl⟩); simp only [Act.put, List.setIfInBounds_toArray, List.set_cons_succ, List.set_cons_zero])
          obtain ⟨z0, z1, z2, z3, z4⟩ := blk5 HG6.out
          have zf := fun i => frozenB HG6.out i
          go_wp2_with fail
          refine Halt.mk ⟨.inr (heap_own5_ne HC6.out hne5 _ _ _ _ _), ?_⟩
          repeat (quiet_step (fail))
          refine wpQuiet_nil ?_
          rintro _ ⟨q2, rfl⟩
          go_wp2_with fail
          refine bodyPost_ret (v := .tuple #[.agg #[.int .i64 C.c0, .int .i64 C.c1, .int .i64 C.c2, .int .i64 C.c3, .int .i64 C.c4], .bool true]) (results_cell_tmp (q := 3) (ty := 27) (ad := ⟨w.heap.size, 0, none⟩) rfl _ rfl (by go_simp)) rfl (set_some HSM.out ?_)
          exact (HK6.out.own5 (Nat.le_refl _) _ _ _ _ _).drewN _
        · have hse : ¬ (T = S) := fun h => hL (by rw [HTT.out, HS.out] at h; simpa using h)
          have hse' : (T.toList == S.toList) = false := by
            rw [beq_eq_false_iff_ne, Go.ByteArray.toList_eq, Go.ByteArray.toList_eq]
            exact fun h => hse (ByteArray.ext (Array.ext' h))
          have HSM := Lib.hid (HNONE.out (.inr hL))
          clear hL HTT HSOME HNONE
          (refine wpFloat_ex rfl ?_; apply Exists.intro; refine ⟨fun w' hw' => ?_, ?_⟩; (go_simp; first | rfl | exact ⟨rfl, rfl⟩); simp only [Act.put, List.setIfInBounds_toArray, List.set_cons_succ, List.set_cons_zero])
          obtain ⟨z0, z1, z2, z3, z4⟩ := blk5 HG6.out
          have zf := fun i => frozenB HG6.out i
          go_wp2_with fail
          refine Halt.mk ⟨.inr (heap_own5_ne HC6.out hne5 _ _ _ _ _), ?_⟩
          repeat (quiet_step (fail))
          refine wpQuiet_nil ?_
          rintro _ ⟨q2, rfl⟩
          go_wp2_with fail
          refine bodyPost_ret (v := .tuple #[.agg #[.int .i64 C.c0, .int .i64 C.c1, .int .i64 C.c2, .int .i64 C.c3, .int .i64 C.c4], .bool false]) (results_cell_tmp (q := 3) (ty := 27) (ad := ⟨w.heap.size, 0, none⟩) rfl _ rfl (by go_simp)) rfl (set_none HSM.out ?_)
          exact (HK6.out.own5 (Nat.le_refl _) _ _ _ _ _).drewN _
  · have h6I : ¬ ((P.length : Int) = 6) := by omega
    have HSM := Lib.hid (HNONE.out (.inl h6))
    generalize P.length = pn at *
    obtain ⟨z0, z1, z2, z3, z4⟩ := blk5 HG2.out
    have zf := fun i => frozenB HG2.out i
    go_wp2_with fail
    refine bodyPost_ret (v := .tuple #[.agg #[.int .i64 0, .int .i64 0, .int .i64 0, .int .i64 0, .int .i64 0], .bool false]) (results_cell_tmp (q := 3) (ty := 27) (ad := ⟨w.heap.size, 0, none⟩) rfl _ rfl (by go_simp)) rfl (set_none (c := zeroConf) HSM.out ?_)
    exact HK2.out.own5 (Nat.le_refl _) _ _ _ _ _
end Go.Proofs.YtdinkdmkbfbjbaaGreatDoor
namespace Go.Proofs.YtdinkdmkbfbjbaaGreatDoor
open Go.RowKit
attribute [local go_sem] fold_part fold_some fold_some' partAt_zero

theorem cutB_false {c : UInt8} : ∀ {l : Bs}, (cutB c l).2.2 = false → (cutB c l).1 = l ∧ (cutB c l).2.1 = []
  | [], _ => ⟨rfl, rfl⟩
  | x :: r, h => by
    rw [cutB] at h ⊢
    by_cases hx : x = c
    · rw [if_pos hx] at h; cases h
    · rw [if_neg hx] at h ⊢
      obtain ⟨h1, h2⟩ := cutB_false h
      exact ⟨by simp only; rw [h1], h2⟩
theorem cutB_shorter {c : UInt8} {l : Bs} (h : l ≠ []) : (cutB c l).2.1.length < l.length := by
  cases l with
  | nil => exact absurd rfl h
  | cons x r =>
    rw [cutB]
    split
    · exact Nat.lt_succ_self _
    · have := (cutB_len c r).2
      simp only [List.length_cons]
      omega

/-- All lines are this short. -/
def ShortL (s : Bs) : Prop := (∀ x ∈ (linesS s).1, x.length ≤ 9000) ∧ (linesS s).2.length ≤ 9000
theorem ShortL.cut {s : Bs} (h : ShortL s) : (cutB 10 s).1.length ≤ 9000 ∧ ShortL (cutB 10 s).2.1 := by
  obtain ⟨h1, h2⟩ := h
  rw [linesS_cut] at h1 h2
  cases hw : (cutB 10 s).2.2 with
  | true =>
    rw [hw, if_pos rfl] at h1 h2
    exact ⟨h1 _ (by simp), fun x hx => h1 x (by simp [hx]), h2⟩
  | false =>
    rw [hw] at h1 h2
    obtain ⟨e1, e2⟩ := cutB_false hw
    rw [e1, e2]
    exact ⟨h2, fun x hx => (by cases hx), by simp [linesS, linesF]⟩

/-- What is left of a text: its deeds, or the line that is wrong. -/
noncomputable def restD (n : Nat) (rest : Bs) (ds : List Deed) : Except Nat (List Deed) :=
  match goOver n (linesS rest).1 ds with
  | .error k => .error k
  | .ok es => if (linesS rest).2 = [] then .ok es else .error (n + (linesS rest).1.length)
theorem goOver_len : ∀ (L : List Bs) (n : Nat) (ds es : List Deed), goOver n L ds = .ok es → True := fun _ _ _ _ _ => trivial
theorem restD_nil (n : Nat) (ds : List Deed) : restD n [] ds = .ok ds := by simp [restD, linesS, linesF, goOver]
theorem restD_cut {n : Nat} {rest : Bs} {ds : List Deed} (h : rest ≠ []) :
    restD n rest ds = if (cutB 10 rest).2.2 = true then (match parseP (cutB 10 rest).1 with | some d => restD (n + 1) (cutB 10 rest).2.1 (ds ++ [d]) | none => .error n) else .error n := by
  unfold restD
  rw [linesS_cut]
  cases hw : (cutB 10 rest).2.2 with
  | true =>
    simp only [if_true, goOver]
    cases parseP (cutB 10 rest).1 with
    | none => rfl
    | some d =>
      simp only
      cases goOver (n + 1) (linesS (cutB 10 rest).2.1).1 (ds ++ [d]) with
      | error k => rfl
      | ok es => simp only [List.length_cons]; rw [show n + 1 + (linesS (cutB 10 rest).2.1).1.length = n + ((linesS (cutB 10 rest).2.1).1.length + 1) by omega]
  | false => simp [goOver, h]
theorem readD_cut (s : Bs) : readD s = if (cutB 10 s).2.2 = true then (match settingsP (cutB 10 s).1 with | some c => (match restD 1 (cutB 10 s).2.1 [] with | .ok ds => .ok (c, ds) | .error k => .error k) | none => .error 0) else .error 0 := by
  unfold readD
  rw [linesS_cut]
  cases hw : (cutB 10 s).2.2 with
  | true =>
    simp only [if_true]
    cases settingsP (cutB 10 s).1 with
    | none => rfl
    | some c =>
      simp only
      unfold restD
      cases goOver 1 (linesS (cutB 10 s).2.1).1 [] with
      | error k => rfl
      | ok es =>
        simp only
        split
        · rfl
        · rw [Nat.add_comm]
  | false => rfl

/-- Deeds with bytes of their own. -/
def TypL (w : World) (ps : List (Deed × Value)) : Prop := ∀ p ∈ ps, BytesV w p.2 p.1.b ∧ TypedB w p.2
theorem TypL.kept {w w' : World} {ps : List (Deed × Value)} (h : TypL w ps) (hk : Kept NoBlock w w') : TypL w' ps := fun p hp => ⟨(h p hp).1.keptNo hk, (h p hp).2.kept hk⟩
theorem TypL.bytes {w : World} {ps : List (Deed × Value)} (h : TypL w ps) : BsV w ps := fun p hp => (h p hp).1
/-- A row of deeds grows: no bytes lie in it. -/
theorem TypL.grown {w w' : World} {base : Nat} {v : Value} {ps qs : List (Deed × Value)} (h : TypL w ps) (hown : OwnD w base v qs) (hg : w.grownBy w' v.ownBlock) : TypL w' ps := by
  intro p hp
  obtain ⟨h1, h2⟩ := h p hp
  have hne : ∀ k, vblk p.2 = some k → some k ≠ v.ownBlock := fun k hk e => by
    obtain ⟨cs, fz, hc⟩ := h2 k hk
    rcases hown.2 with ⟨rfl, _⟩ | ⟨g, cap, cur, rfl, _, hgg, _⟩
    · cases e
    · obtain rfl : k = g := by simpa [Value.ownBlock] using e
      rw [hc] at hgg
      cases hgg
  have hk : Kept (fun k => some k = v.ownBlock) w w' := ⟨hg.os, hg.tape, hg.output, hg.size, fun k hk hn => hg.block k hk hn⟩
  exact ⟨h1.kept hk hne, fun k hk2 => by obtain ⟨cs, fz, hc⟩ := h2 k hk2; exact ⟨cs, fz, hk.heap hc (hne k hk2)⟩⟩

/-- What a Read leaves. -/
def ReadEnd (M : Except Nat (Conf × List Deed)) (w : World) (e : Ending) (w' : World) : Prop :=
  Kept NoBlock w w' ∧ match M with
  | .ok (c, ds) => ∃ (v : Value) (ps : List (Deed × Value)), e = .returned (.tuple #[confV c, v, .int .i64 0, .int .i64 0]) ∧ ps.map (·.1) = ds ∧ DeedsV w' v ps ∧ BsV w' ps
  | .error k => e = .returned (.tuple #[confV zeroConf, .slice none 0 0, .int .i64 k, .int .i64 251])

theorem results_cell_tmp3 {fn : Func} {p q1 q2 q3 : Tmp} {ty : TypeId} (h : fn.results = #[.cell p ty, .tmp q1, .tmp q2, .tmp q3]) (tmps : Array Value) {P : Program} {w : World} {ad : Addr} {v : Value}
    (hp : tmps.getD p undef = .pointer (some ad)) (hl : (loadVar ty ad).run P w = .ok v w) :
    (results fn tmps).run P w = .ok (.tuple #[v, tmps.getD q1 undef, tmps.getD q2 undef, tmps.getD q3 undef]) w := by
  rw [Array.getD_eq_getD_getElem?] at hp
  simp [results, h, Sem.run_bind, Result.andThen, hp, asAddr, hl]

theorem read_err {M : Except Nat (Conf × List Deed)} {k : Nat} {w w' : World} (h : M = .error k) (hk : Kept NoBlock w w') : ReadEnd M w (.returned (.tuple #[confV zeroConf, .slice none 0 0, .int .i64 k, .int .i64 251])) w' := by
  subst h; exact ⟨hk, rfl⟩
theorem read_ok {M : Except Nat (Conf × List Deed)} {c : Conf} {ds : List Deed} {v : Value} {ps : List (Deed × Value)} {w w' : World} (h : M = .ok (c, ds)) (hk : Kept NoBlock w w') (hm : ps.map (·.1) = ds) (hd : DeedsV w' v ps) (hb : BsV w' ps) :
    ReadEnd M w (.returned (.tuple #[confV c, v, .int .i64 0, .int .i64 0])) w' := by
  subst h; exact ⟨hk, v, ps, rfl, hm, hd, hb⟩

theorem OwnD.keptS {S : Nat → Prop} {w w' : World} {base : Nat} {v : Value} {ps : List (Deed × Value)} (h : OwnD w base v ps) (hk : Kept S w w') (hS : ∀ k, base ≤ k → ¬ S k) : OwnD w' base v ps := by
  refine ⟨h.1, ?_⟩
  rcases h.2 with hn | ⟨g, cap, cur, rfl, hb, hg, rest⟩
  · exact .inl hn
  · exact .inr ⟨g, cap, cur, rfl, hb, hk.heap hg (hS g hb), rest⟩
/-- Bytes do not lie in a block of another type. -/
theorem TypL.keptH {w w' : World} {ps : List (Deed × Value)} {H : Nat} {cs : Array Value} {T : TypeId} (h : TypL w ps) (hH : w.heap[H]? = some (.cells cs T (0, 0))) (hT : T ≠ 5) (hk : Kept (fun k => k = H) w w') : TypL w' ps := by
  intro p hp
  obtain ⟨h1, h2⟩ := h p hp
  have hne : ∀ k, vblk p.2 = some k → ¬ (k = H) := fun k hv e => by
    obtain ⟨cs', fz, hc⟩ := h2 k hv
    rw [e, hH] at hc
    cases hc
    exact hT rfl
  exact ⟨h1.kept hk hne, fun k hv => by obtain ⟨cs', fz, hc⟩ := h2 k hv; exact ⟨cs', fz, hk.heap hc (hne k hv)⟩⟩
end Go.Proofs.YtdinkdmkbfbjbaaGreatDoor
namespace Go.Proofs.YtdinkdmkbfbjbaaGreatDoor
open Go.RowKit
attribute [local go_sem] fold_part fold_some fold_some' partAt_zero

def strLen : Value → Nat
  | .string s => s.size
  | _ => 0

set_option maxRecDepth 100000 in
set_option maxHeartbeats 3200000 in
theorem pread (s : Bs) (hs : s.length ≤ 300000) (hsh : ShortL s) (w : World) (hV : Vs w) (hM : Mx w) :
    Calls Tryz.prog 4 #[.string ⟨s.toArray⟩] w (ReadEnd (readD s) w) := by
  have hct := fun l (hl : l.length ≤ 300000) W (hk : Kept NoBlock w W) => pcut l (by omega) 10 W (hM.kept hk)
  have hst := fun l (hl : l.length ≤ 9000) W (hk : Kept NoBlock w W) => psettings l hl W (hV.below hk.toB) (hM.kept hk)
  have hpa := fun l (hl : l.length ≤ 9000) W (hk : Kept NoBlock w W) => pparse l hl W (hV.below hk.toB) (hM.kept hk)
  have hc0 := hct s hs
  have hcut := hsh.cut
  have hcl := (cutB_len 10 s).2
  generalize hRR : readD s = RR
  rw [readD_cut] at hRR
  have hs0 := hst (cutB 10 s).1 hcut.1
  have hsh1 := hcut.2
  generalize (cutB 10 s).1 = l1 at *
  generalize (cutB 10 s).2.1 = l2 at *
  generalize (cutB 10 s).2.2 = wh at *
  obtain ⟨S, hS⟩ : ∃ S : ByteArray, S = ⟨s.toArray⟩ := ⟨_, rfl⟩
  obtain ⟨S1, hS1⟩ : ∃ S : ByteArray, S = ⟨l1.toArray⟩ := ⟨_, rfl⟩
  obtain ⟨S2, hS2⟩ : ∃ S : ByteArray, S = ⟨l2.toArray⟩ := ⟨_, rfl⟩
  have hSz : S.size ≤ 300000 := by rw [str_size hS]; exact hs
  have hSI : ¬ ((67108864 : Int) < (S.size : Int)) := by omega
  rw [← hS, ← hS1, ← hS2] at hc0
  rw [← hS1] at hs0
  rw [← hS]
  have HCT := Lib.hid hct
  have HPA := Lib.hid hpa
  have HC0 := Lib.hid hc0
  have HS0 := Lib.hid hs0
  have HRR := Lib.hid hRR
  have HSH := Lib.hid hsh1
  have HCL := Lib.hid hcl
  have HS2 := Lib.hid hS2
  have HSL := Lib.hid hs
  clear hct hst hpa hc0 hs0 hRR hsh1 hcl hcut hsh hS hS1 hS2 hs hV hM
  have HK1 := Lib.hid (Kept.allocd w (.cells #[.int .i64 0, .int .i64 0, .int .i64 0, .int .i64 0, .int .i64 0] 27))
  have HG1 := Lib.hid (heap_alloc_new w (.cells #[.int .i64 0, .int .i64 0, .int .i64 0, .int .i64 0, .int .i64 0] 27))
  go_enter Tryz.func4, Tryz.ntmps4
  go_wp2_with fail
  generalize w.alloc (.cells #[.int .i64 0, .int .i64 0, .int .i64 0, .int .i64 0, .int .i64 0] 27) = W1 at *
  refine (HC0.out _ HK1.out).mono ?_
  rintro e w2 ⟨rfl, hk⟩
  have HK2 := Lib.hid (HK1.out.trans hk)
  have HG2 := Lib.hid (hk.heap HG1.out (fun h => h))
  clear hk HG1 HK1
  go_wp2_with fail
  refine (HS0.out _ HK2.out).mono ?_
  rintro e w3 ⟨hk, C, ok, rfl, hok⟩
  have HK3 := Lib.hid (HK2.out.trans hk)
  have hg3 := hk.heap HG2.out (fun h => h)
  have HG3 := Lib.hid hg3
  have hlt3 : w.heap.size < w3.heap.size := lt_of_heap hg3
  have HOK := Lib.hid hok
  have HK4 := Lib.hid (HK3.out.alloc (.cells #[.int .i64 C.c0, .int .i64 C.c1, .int .i64 C.c2, .int .i64 C.c3, .int .i64 C.c4] 27))
  have HG4 := Lib.hid ((Kept.allocd w3 (.cells #[.int .i64 C.c0, .int .i64 C.c1, .int .i64 C.c2, .int .i64 C.c3, .int .i64 C.c4] 27)).heap hg3 (fun h => h))
  have HC4 := Lib.hid (heap_alloc_new w3 (.cells #[.int .i64 C.c0, .int .i64 C.c1, .int .i64 C.c2, .int .i64 C.c3, .int .i64 C.c4] 27))
  clear hk hok hg3 HS0 HC0
  obtain ⟨z0, z1, z2, z3, z4⟩ := blk5 HG3.out
  have zf := fun i => frozenB HG3.out i
  unfold confV
  by_cases hgood : ok = true ∧ wh = true
  · obtain ⟨rfl, rfl⟩ := hgood
    clear z0 z1 z2 z3 z4 zf
    go_wp2_with fail
    generalize w3.alloc (.cells #[.int .i64 C.c0, .int .i64 C.c1, .int .i64 C.c2, .int .i64 C.c3, .int .i64 C.c4] 27) = W4 at *
    generalize w3.heap.size = hc at *
    have hgl : hc < W4.heap.size := lt_of_heap HC4.out
    have hW : ∃ c, settingsP l1 = some c ∧ C = c := by
      have := HOK.out
      cases hsp : settingsP l1 with
      | none => rw [hsp] at this; exact Bool.noConfusion (show true = false from this)
      | some d => rw [hsp] at this; exact ⟨d, rfl, this.2⟩
    obtain ⟨c, hsp, rfl⟩ := hW
    have hRR : RR = (match restD 1 l2 [] with | .ok ds => .ok (C, ds) | .error k => .error k) := by
      rw [← HRR.out, hsp]; rfl
    have HRS := Lib.hid hRR
    generalize hMM : restD 1 l2 [] = MM at *
    have HMM := Lib.hid hMM
    clear hRR hsp hMM HRR HOK
    obtain ⟨B, hB⟩ : ∃ B, B = W4.heap.size := ⟨_, rfl⟩
    rw [← hB] at hgl
    have hBw : w.heap.size < B := by omega
    have hB4 : B ≤ W4.heap.size := by omega
    clear hB
    go_loopw [7, 11, 12] (fun vr vl vn wr => ∃ (rest : Bs) (n : Nat) (ps : List (Deed × Value)), vr = .string ⟨rest.toArray⟩ ∧ vn = .int .i64 n ∧ OwnD wr B vl ps ∧ TypL wr ps ∧ restD n rest (ps.map (·.1)) = MM ∧ ShortL rest ∧ rest.length + ps.length ≤ 300000 ∧ n = ps.length + 1 ∧ Kept NoBlock w wr ∧ B ≤ wr.heap.size ∧
      wr.heap[w.heap.size]? = some (.cells #[.int .i64 0, .int .i64 0, .int .i64 0, .int .i64 0, .int .i64 0] 27 (0, 0)) ∧ wr.heap[hc]? = some (.cells #[.int .i64 C.c0, .int .i64 C.c1, .int .i64 C.c2, .int .i64 C.c3, .int .i64 C.c4] 27 (0, 0))) (fun vr _ _ _ => strLen vr)
    case atStart => exact ⟨l2, 1, [], by rw [HS2.out], rfl, OwnD.nil _ _, fun p hp => (by cases hp), HMM.out, HSH.out, by have := HCL.out; have := HSL.out; simp only [List.length_nil]; omega, rfl, HK4.out, hB4, HG4.out, HC4.out⟩
    case round =>
      obtain ⟨rest, n, ps, rfl, rfl, hown, htyp, hrest, hshort, hlen, hn, hk, hbs, hz, hcc⟩ := hrel
      obtain ⟨ap, cap, rfl, _⟩ := hown.form
      have HNE := Lib.hid hn
      have hnb : n ≤ 300001 := by omega
      have HO := Lib.hid hown
      have HTY := Lib.hid htyp
      have HRE := Lib.hid hrest
      have HSHR := Lib.hid hshort
      have HK := Lib.hid hk
      have HZ := Lib.hid hz
      have HCC := Lib.hid hcc
      clear hn hown htyp hrest hshort hk hz hcc HK4 HG4 HC4 HSH HMM
      obtain ⟨X, hX⟩ : ∃ X : ByteArray, X = ⟨rest.toArray⟩ := ⟨_, rfl⟩
      have hemp : X.toList.isEmpty = rest.isEmpty := by rw [Go.ByteArray.toList_eq, hX]
      have hXs := str_size hX
      by_cases hre : rest = []
      · subst hre
        have hfin : MM = .ok (ps.map (·.1)) := by rw [← HRE.out, restD_nil]
        have hRR : RR = .ok (C, ps.map (·.1)) := by rw [HRS.out, hfin]
        have HRRR := Lib.hid hRR
        clear hfin hRR HRE
        rw [← hX]
        have hemp2 : X.toList.isEmpty = true := hemp
        clear hX hemp
        obtain ⟨z0, z1, z2, z3, z4⟩ := blk5 HZ.out
        have zf := fun i => frozenB HZ.out i
        obtain ⟨y0, y1, y2, y3, y4⟩ := blk5 HCC.out
        have hdv := HO.out.deeds
        have hst : ∀ v0 v1 v2 v3 v4, Kept (fun k => k = w.heap.size) wr (((((wr.setCell ⟨w.heap.size, 0, none⟩ v0).setCell ⟨w.heap.size, 1, none⟩ v1).setCell ⟨w.heap.size, 2, none⟩ v2).setCell ⟨w.heap.size, 3, none⟩ v3).setCell ⟨w.heap.size, 4, none⟩ v4) := fun v0 v1 v2 v3 v4 => ((((Kept.one wr _ 0 v0).one' 1 v1).one' 2 v2).one' 3 v3).one' 4 v4
        have HST := Lib.hid hst
        have HDV := Lib.hid hdv
        generalize ps.length = pn at *
        clear hst hdv
        go_wp2_with fail
        refine bodyPost_ret (v := .tuple #[.agg #[.int .i64 C.c0, .int .i64 C.c1, .int .i64 C.c2, .int .i64 C.c3, .int .i64 C.c4], .slice ap pn cap, .int .i64 0, .int .i64 0]) (results_cell_tmp3 (q1 := 3) (q2 := 4) (q3 := 5) (ty := 27) (ad := ⟨w.heap.size, 0, none⟩) rfl _ rfl (by go_simp)) rfl (read_ok (c := C) (ps := ps) HRRR.out (HK.out.own5 (Nat.le_refl _) _ _ _ _ _) rfl ?_ ?_)
        · exact (HO.out.keptS (HST.out _ _ _ _ _) (fun k hk e => by omega)).deeds
        · exact (HTY.out.keptH HZ.out (by decide) (HST.out _ _ _ _ _)).bytes
      · have hemp2 : X.toList.isEmpty = false := by
          rw [hemp]; cases rest with
          | nil => exact absurd rfl hre
          | cons _ _ => rfl
        have hcut := HSHR.out.cut
        have hstep := restD_cut (n := n) (ds := ps.map (·.1)) hre
        rw [HRE.out] at hstep
        have hshr := cutB_shorter (c := 10) hre
        have hc1 := HCT.out rest (by omega)
        have hp1 := HPA.out (cutB 10 rest).1 hcut.1
        have hsh1 := hcut.2
        clear hcut HSHR HRE hre hemp
        generalize (cutB 10 rest).1 = f1 at *
        generalize (cutB 10 rest).2.1 = r1 at *
        generalize (cutB 10 rest).2.2 = w1h at *
        rw [← hX] at hc1 ⊢
        obtain ⟨F1, hF1⟩ : ∃ S : ByteArray, S = ⟨f1.toArray⟩ := ⟨_, rfl⟩
        obtain ⟨R1, hR1⟩ : ∃ S : ByteArray, S = ⟨r1.toArray⟩ := ⟨_, rfl⟩
        rw [← hF1, ← hR1] at hc1
        rw [← hF1] at hp1
        have HST := Lib.hid hstep
        have HSHN := Lib.hid hshr
        have HC1 := Lib.hid hc1
        have HP1 := Lib.hid hp1
        have HSH1 := Lib.hid hsh1
        have HR1 := Lib.hid hR1
        clear hX hstep hshr hc1 hp1 hsh1 hF1 hR1
        generalize parseP f1 = r at *
        go_wp2_with fail
        refine (HC1.out _ HK.out).mono ?_
        rintro e w5 ⟨rfl, hk⟩
        have HK5 := Lib.hid (HK.out.trans hk)
        have HO5 := Lib.hid (HO.out.kept hk)
        have HTY5 := Lib.hid (HTY.out.kept hk)
        have HZ5 := Lib.hid (hk.heap HZ.out (fun h => h))
        have HCC5 := Lib.hid (hk.heap HCC.out (fun h => h))
        have hbs5 : B ≤ w5.heap.size := Nat.le_trans hbs hk.size
        clear hk HK HO HTY HZ HCC HC1
        go_wp2_with fail
        refine (HP1.out _ HK5.out).mono ?_
        rintro e w6 ⟨hk, hend⟩
        have HK6 := Lib.hid (HK5.out.trans hk)
        have HO6 := Lib.hid (HO5.out.kept hk)
        have HTY6 := Lib.hid (HTY5.out.kept hk)
        have HZ6 := Lib.hid (hk.heap HZ5.out (fun h => h))
        have HCC6 := Lib.hid (hk.heap HCC5.out (fun h => h))
        have hbs6 : B ≤ w6.heap.size := Nat.le_trans hbs5 hk.size
        clear hk HK5 HO5 HTY5 HZ5 HCC5 HP1
        have hzl := lt_of_heap HZ6.out
        cases r with
        | none =>
          obtain ⟨v, rfl, hv⟩ := hend
          obtain ⟨bv, rfl, hb⟩ := hv
          obtain ⟨bp, bc, rfl, _⟩ := hb.parts
          have hbad : RR = .error n := by
            have h2 : MM = .error n := by rw [HST.out]; cases w1h <;> rfl
            rw [HRS.out, h2]
          have HBAD := Lib.hid hbad
          clear hbad hb HST
          obtain ⟨z0, z1, z2, z3, z4⟩ := blk5 HZ6.out
          have zf := fun i => frozenB HZ6.out i
          go_wp2_with fail
          refine bodyPost_ret (v := .tuple #[.agg #[.int .i64 0, .int .i64 0, .int .i64 0, .int .i64 0, .int .i64 0], .slice none 0 0, .int .i64 (n : Nat), .int .i64 251]) (results_cell_tmp3 (q1 := 3) (q2 := 4) (q3 := 5) (ty := 27) (ad := ⟨w.heap.size, 0, none⟩) rfl _ rfl (by go_simp)) rfl (read_err HBAD.out ?_)
          exact (HK6.out.own5 (Nat.le_refl _) _ _ _ _ _).alloc _
        | some d =>
          obtain ⟨bv, rfl, hb, ht⟩ := hend
          obtain ⟨bp, bc, rfl, _⟩ := hb.parts
          cases w1h with
          | false =>
            have hbad : RR = .error n := by
              have h2 : MM = .error n := by rw [HST.out]; rfl
              rw [HRS.out, h2]
            have HBAD := Lib.hid hbad
            clear hbad hb ht HST
            obtain ⟨z0, z1, z2, z3, z4⟩ := blk5 HZ6.out
            have zf := fun i => frozenB HZ6.out i
            go_wp2_with fail
            refine bodyPost_ret (v := .tuple #[.agg #[.int .i64 0, .int .i64 0, .int .i64 0, .int .i64 0, .int .i64 0], .slice none 0 0, .int .i64 (n : Nat), .int .i64 251]) (results_cell_tmp3 (q1 := 3) (q2 := 4) (q3 := 5) (ty := 27) (ad := ⟨w.heap.size, 0, none⟩) rfl _ rfl (by go_simp)) rfl (read_err HBAD.out ?_)
            exact (HK6.out.own5 (Nat.le_refl _) _ _ _ _ _).alloc _
          | true =>
            have hst2 : restD (n + 1) r1 (ps.map (·.1) ++ [d]) = MM := HST.out.symm
            have HST2 := Lib.hid hst2
            have HB := Lib.hid hb
            have HT := Lib.hid ht
            clear hst2 hb ht HST
            obtain ⟨pn, hpn⟩ : ∃ pn, pn = ps.length := ⟨_, rfl⟩
            have hpI : ¬ ((pn : Int) = 1048576) := by omega
            have hpb : ((pn : Int) == 1048576) = false := by rw [beq_eq_false_iff_ne]; exact hpI
            rw [← hpn] at HO6 ⊢
            have HPN := Lib.hid hpn
            clear hpn
            have hnw : ((w6.alloc (.cells #[.int .i64 d.kind, .int .i64 d.a, .int .i64 d.n, .int .u64 d.draw, .slice bp d.b.length bc] 45)).alloc (.cells #[.int .i64 d.kind, .int .i64 d.a, .int .i64 d.n, .int .u64 d.draw, .slice bp d.b.length bc] 45)).heap[w6.heap.size + 1]? = some (.cells #[.int .i64 d.kind, .int .i64 d.a, .int .i64 d.n, .int .u64 d.draw, .slice bp d.b.length bc] 45 (0, 0)) := by
              have := heap_alloc_new (w6.alloc (.cells #[.int .i64 d.kind, .int .i64 d.a, .int .i64 d.n, .int .u64 d.draw, .slice bp d.b.length bc] 45)) (.cells #[.int .i64 d.kind, .int .i64 d.a, .int .i64 d.n, .int .u64 d.draw, .slice bp d.b.length bc] 45)
              rwa [World.size_alloc] at this
            have HNW := Lib.hid hnw
            have hk8 : Kept NoBlock w6 ((w6.alloc (.cells #[.int .i64 d.kind, .int .i64 d.a, .int .i64 d.n, .int .u64 d.draw, .slice bp d.b.length bc] 45)).alloc (.cells #[.int .i64 d.kind, .int .i64 d.a, .int .i64 d.n, .int .u64 d.draw, .slice bp d.b.length bc] 45)) := (Kept.allocd w6 _).alloc _
            have HO8 : Hid (OwnD _ B (.slice ap pn cap) ps) := Lib.hid (HO6.out.kept hk8)
            have HTY8 := Lib.hid (show TypL _ (ps ++ [(d, .slice bp d.b.length bc)]) from fun p hp => by
              rcases List.mem_append.1 hp with hp | hp
              · exact HTY6.out.kept hk8 p hp
              · obtain rfl := List.mem_singleton.1 hp
                exact ⟨HB.out.keptNo hk8, HT.out.kept hk8⟩)
            have HK8 := Lib.hid (HK6.out.trans hk8)
            have HZ8 := Lib.hid (hk8.heap HZ6.out (fun h => h))
            have HCC8 := Lib.hid (hk8.heap HCC6.out (fun h => h))
            clear hnw hk8
            go_wp2_with (at_builtin; refine wpList_appD rfl _ _ (by rfl) B _ ps (by rfl) HO8.out (w6.heap.size + 1) (d, .slice bp d.b.length bc) (by rfl) HNW.out rfl (by omega) (by simp; omega) ?_; intro v3 w9 hown3 hg3; refine Hid.out ?_)
            have HO9 := Lib.hid hown3
            have HTY9 := Lib.hid (HTY8.out.grown HO8.out hg3)
            have HK9 := Lib.hid (Kept.appD HK8.out HO8.out (Nat.le_of_lt hBw) hg3)
            have hlt8 := (HO8.out.lt)
            have HZ9 := Lib.hid (show w9.heap[w.heap.size]? = some (.cells #[.int .i64 0, .int .i64 0, .int .i64 0, .int .i64 0, .int .i64 0] 27 (0, 0)) from by
              rw [hg3.block w.heap.size (by simp; omega) (fun e => by have := hlt8 _ e.symm; omega)]; exact HZ8.out)
            have HCC9 := Lib.hid (show w9.heap[hc]? = some (.cells #[.int .i64 C.c0, .int .i64 C.c1, .int .i64 C.c2, .int .i64 C.c3, .int .i64 C.c4] 27 (0, 0)) from by
              rw [hg3.block hc (by simp; omega) (fun e => by have := hlt8 _ e.symm; omega)]; exact HCC8.out)
            have hbs9 : B ≤ w9.heap.size := by have := hg3.size; simp at this; omega
            obtain ⟨ap9, cap9, rfl, _⟩ := hown3.form
            clear hown3 hg3 hlt8
            refine Lib.hid ?_
            go_wp2
            go_roundw
            case rel => exact ⟨r1, n + 1, ps ++ [(d, .slice bp d.b.length bc)], by rw [HR1.out], by go_num, HO9.out, HTY9.out, by rw [List.map_append]; exact HST2.out, HSH1.out, by have := HSHN.out; rw [List.length_append, List.length_singleton]; omega, by have := HNE.out; rw [List.length_append, List.length_singleton]; omega, HK9.out, hbs9, HZ9.out, HCC9.out⟩
            case measure =>
              have := HSHN.out
              have h2 := str_size HR1.out
              simp only [strLen]
              omega
  · have hbad : RR = .error 0 := by
      rw [← HRR.out]
      cases wh with
      | false => rfl
      | true =>
        have hno : ok = false := by cases ok with | false => rfl | true => exact absurd ⟨rfl, rfl⟩ hgood
        subst hno
        have := HOK.out
        cases hsp : settingsP l1 with
        | none => rfl
        | some d => rw [hsp] at this; exact absurd this.1 (by decide)
    have HBAD := Lib.hid hbad
    have hcase : ok = false ∨ (ok = true ∧ wh = false) := by
      cases ok with
      | false => exact .inl rfl
      | true => cases wh with
        | false => exact .inr ⟨rfl, rfl⟩
        | true => exact absurd ⟨rfl, rfl⟩ hgood
    clear hbad hgood HRR HOK
    rcases hcase with rfl | ⟨rfl, rfl⟩
    all_goals
      go_wp2_with fail
      refine bodyPost_ret (v := .tuple #[.agg #[.int .i64 0, .int .i64 0, .int .i64 0, .int .i64 0, .int .i64 0], .slice none 0 0, .int .i64 (0 : Nat), .int .i64 251]) (results_cell_tmp3 (q1 := 3) (q2 := 4) (q3 := 5) (ty := 27) (ad := ⟨w.heap.size, 0, none⟩) rfl _ rfl (by go_simp)) rfl (read_err HBAD.out ?_)
      exact (HK3.out.own5 (Nat.le_refl _) _ _ _ _ _).alloc _
end Go.Proofs.YtdinkdmkbfbjbaaGreatDoor
namespace Go.Proofs.YtdinkdmkbfbjbaaGreatDoor
open Go.RowKit
attribute [local go_sem] fold_part fold_some fold_some' partAt_zero

def sameL : List Deed → List Deed → Bool
  | [], [] => true
  | d :: ds, e :: es => sameD d e && sameL ds es
  | _, _ => false
theorem sameD_refl (d : Deed) : sameD d d = true := by simp [sameD]
theorem sameL_refl : ∀ L : List Deed, sameL L L = true
  | [] => rfl
  | d :: L => by simp [sameL, sameD_refl, sameL_refl L]
theorem sameL_len : ∀ {L M : List Deed}, L.length ≠ M.length → sameL L M = false
  | [], [], h => absurd rfl h
  | [], _ :: _, _ => rfl
  | _ :: _, [], _ => rfl
  | d :: L, e :: M, h => by
    rw [sameL, sameL_len (L := L) (M := M) (fun h2 => h (by simp [h2])), Bool.and_false]

set_option maxRecDepth 100000 in
set_option maxHeartbeats 1600000 in
theorem rsameall (v u : Value) (ps qs : List (Deed × Value)) (w : World) (h1 : DeedsV w v ps) (b1 : BsV w ps) (h2 : DeedsV w u qs) (b2 : BsV w qs) (hl1 : ps.length ≤ 2000000) (hl2 : qs.length ≤ 2000000) :
    Calls Tryz.prog 6 #[v, u] w fun e w' => e = .returned (.bool (sameL (ps.map (·.1)) (qs.map (·.1)))) ∧ Kept NoBlock w w' := by
  have D1 := h1
  have D2 := h2
  obtain ⟨ap, cap, rfl, _, hc1, _⟩ := h1
  obtain ⟨aq, caq, rfl, _, hc2, _⟩ := h2
  generalize hM : sameL (ps.map (·.1)) (qs.map (·.1)) = M
  have HM := Lib.hid hM
  clear hM
  obtain ⟨n, hN⟩ : ∃ n, n = ps.length := ⟨_, rfl⟩
  obtain ⟨m, hMm⟩ : ∃ m, m = qs.length := ⟨_, rfl⟩
  rw [← hN] at D1 hc1 hl1 ⊢
  rw [← hMm] at D2 hc2 hl2 ⊢
  have HN := Lib.hid hN
  have HMM := Lib.hid hMm
  have HD1 := Lib.hid D1
  have HD2 := Lib.hid D2
  have HB1 := Lib.hid b1
  have HB2 := Lib.hid b2
  clear hN hMm D1 D2 b1 b2
  by_cases hnm : n = m
  · subst hnm
    go_enter Tryz.func6, Tryz.ntmps6
    go_wp2
    go_loopw [5] (fun vi wr => ∃ i : Nat, vi = .int .i64 i ∧ i ≤ n ∧ sameL ((ps.drop i).map (·.1)) ((qs.drop i).map (·.1)) = M ∧ Kept NoBlock w wr) (fun vi _ => n - (intOf vi).toNat)
    case atStart => exact ⟨0, rfl, Nat.zero_le _, HM.out, Kept.refl _ _⟩
    case round =>
      obtain ⟨i, rfl, hi, hsm, hk⟩ := hrel
      have HK := Lib.hid hk
      have HSM := Lib.hid hsm
      clear hk hsm
      by_cases hlt : i < n
      · have hltI : (i : Int) < (n : Int) := by omega
        have hi1 : i < ps.length := by have := HN.out; omega
        have hi2 : i < qs.length := by have := HMM.out; omega
        obtain ⟨p, hp⟩ : ∃ p, ps[i]? = some p := ⟨ps[i], List.getElem?_eq_getElem hi1⟩
        obtain ⟨q, hq⟩ : ∃ q, qs[i]? = some q := ⟨qs[i], List.getElem?_eq_getElem hi2⟩
        have hdp : ps.drop i = p :: ps.drop (i + 1) := by rw [List.drop_eq_getElem_cons hi1]; rw [List.getElem?_eq_getElem hi1] at hp; cases hp; rfl
        have hdq : qs.drop i = q :: qs.drop (i + 1) := by rw [List.drop_eq_getElem_cons hi2]; rw [List.getElem?_eq_getElem hi2] at hq; cases hq; rfl
        have hst := HSM.out
        rw [hdp, hdq, List.map_cons, List.map_cons, sameL] at hst
        obtain ⟨ad, rfl, a0, a1, a2, a3, a4⟩ := (HD1.out.kept HK.out).at hp
        obtain ⟨ae, rfl, e0, e1, e2, e3, e4⟩ := (HD2.out.kept HK.out).at hq
        have hb1 := (HB1.out p (List.mem_of_getElem? hp)).keptNo HK.out
        have hb2 := (HB2.out q (List.mem_of_getElem? hq)).keptNo HK.out
        obtain ⟨d, bv⟩ := p
        obtain ⟨d', bv'⟩ := q
        simp only at a0 a1 a2 a3 a4 e0 e1 e2 e3 e4 hb1 hb2 hst
        obtain ⟨bp, bc, rfl, _⟩ := hb1.parts
        obtain ⟨bq, bd, rfl, _⟩ := hb2.parts
        have hcall := fun W (hk : Kept NoBlock wr W) => rsame _ _ d d' W ⟨_, rfl, hb1.keptNo hk⟩ ⟨_, rfl, hb2.keptNo hk⟩
        generalize sameD d d' = SD at *
        have HC := Lib.hid hcall
        have HST := Lib.hid hst
        clear hi1 hi2 hp hq hdp hdq hst hb1 hb2 hcall
        go_wp2_with fail
        refine wp_plan 0 [1, 2, 3, 4, 5, 6, 7] 8 [] [9] (by kernel_rfl) (by kernel_rfl) ?_
        simp only [wpPlan, pick, List.filterMap_cons, List.filterMap_nil, List.getElem?_cons_succ, List.getElem?_cons_zero]
        repeat (quiet_step (fail))
        refine wpQuiet_nil ?_
        rintro _ ⟨q1, rfl⟩
        go_wp2_with fail
        refine (HC.out _ ((Kept.refl _ _).drewN _)).mono ?_
        rintro e w2 ⟨rfl, hk⟩
        have HK2 := Lib.hid ((HK.out.drewN q1).trans hk)
        clear hk a0 a1 a2 a3 a4 e0 e1 e2 e3 e4
        go_wp2_with fail
        refine Halt.mk ?_
        repeat (quiet_step (fail))
        refine wpQuiet_nil ?_
        rintro _ ⟨q2, rfl⟩
        cases SD with
        | true =>
          have hst2 : sameL ((ps.drop (i + 1)).map (·.1)) ((qs.drop (i + 1)).map (·.1)) = M := by have := HST.out; simpa using this
          have HST2 := Lib.hid hst2
          clear hst2
          go_wp2
          go_roundw
          case rel => exact ⟨i + 1, by go_num, by omega, HST2.out, HK2.out.drewN _⟩
          case measure => simp [intOf]; omega
        | false =>
          have hMf : M = false := by have := HST.out; simpa using this.symm
          have HMF := Lib.hid hMf
          clear hMf
          go_wp2_with fail
          go_ret
          exact ⟨by rw [HMF.out]; rfl, HK2.out.drewN _⟩
      · obtain rfl : i = n := by omega
        have hMt : M = true := by
          rw [← HSM.out, List.drop_of_length_le (by have := HN.out; omega), List.drop_of_length_le (by have := HMM.out; omega)]; rfl
        have HMT := Lib.hid hMt
        clear hMt
        go_wp2
        go_ret
        exact ⟨by rw [HMT.out]; rfl, HK.out⟩
  · have hMf : M = false := by rw [← HM.out]; exact sameL_len (by rw [List.length_map, List.length_map, ← HN.out, ← HMM.out]; exact hnm)
    have HMF := Lib.hid hMf
    have hnI : ¬ ((n : Int) = (m : Int)) := by omega
    have hnb : ((n : Int) == (m : Int)) = false := by rw [beq_eq_false_iff_ne]; exact hnI
    clear hMf hnm
    go_enter Tryz.func6, Tryz.ntmps6
    go_wp2
    go_ret
    exact ⟨by rw [HMF.out]; rfl, Kept.refl _ _⟩
end Go.Proofs.YtdinkdmkbfbjbaaGreatDoor
