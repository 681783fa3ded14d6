/- Merged: Rows of deeds in memory; The line of a world's settings; Is one of a row's deeds none that has a line?; The line of a world's settings, by the program; A script's text, by the program; Inputs cut; the law of quoted texts; A script's text, by the document; The law of lines; The first deeds of a row, cut; The law of scripts' texts. -/
import Derived.Test.YtdinkdmkbfbjbaaDoorZAl
set_option linter.all false
namespace Go.Proofs.YtdinkdmkbfbjbaaDoor
open Go.RowKit
attribute [local go_sem] fold_part fold_some fold_some' partAt_zero

/-- A deed's five cells; the second is its bytes' slice. -/
def dCells (p : Deed × Value) : List Value := [.int .i64 p.1.kind, .int .i64 p.1.a, .int .i64 p.1.n, .int .u64 p.1.draw, p.2]
theorem dCells_len (ps : List (Deed × Value)) : (ps.flatMap dCells).length = 5 * ps.length := by
  induction ps with
  | nil => rfl
  | cons p ps ih => rw [List.flatMap_cons, List.length_append, ih]; simp [dCells]; omega
theorem dCells_at : ∀ (ps : List (Deed × Value)) (i j : Nat) (p : Deed × Value), ps[i]? = some p → j < 5 → (ps.flatMap dCells)[i * 5 + j]? = (dCells p)[j]?
  | [], i, j, p, h, _ => by simp at h
  | q :: ps, 0, j, p, h, hj => by
    obtain rfl : q = p := by simpa using h
    rw [List.flatMap_cons, List.getElem?_append_left (by simp [dCells]; omega)]
    simp
  | q :: ps, i + 1, j, p, h, hj => by
    rw [List.flatMap_cons, List.getElem?_append_right (by simp [dCells]; omega)]
    have e : (i + 1) * 5 + j - (dCells q).length = i * 5 + j := by simp [dCells]; omega
    rw [e]
    exact dCells_at ps i j p (by simpa using h) hj
theorem dCells_one (ps : List (Deed × Value)) (h : ∀ p ∈ ps, p.2.oneCell' = true) : ∀ u ∈ ps.flatMap dCells, u.oneCell' = true := by
  intro u hu
  obtain ⟨p, hp, hu⟩ := List.mem_flatMap.1 hu
  simp only [dCells, List.mem_cons, List.not_mem_nil, or_false] at hu
  rcases hu with rfl | rfl | rfl | rfl | rfl
  · rfl
  · rfl
  · rfl
  · rfl
  · exact h p hp

/-- A slice of deeds: the cells. -/
def DeedsV (w : World) (v : Value) (ps : List (Deed × Value)) : Prop := ∃ ap cap, v = .slice ap ps.length cap ∧ Holds w ap (5 * ps.length) (ps.flatMap dCells) ∧ ps.length ≤ cap ∧ (ap = none → cap = 0)
/-- The deeds' bytes. -/
def BsV (w : World) (ps : List (Deed × Value)) : Prop := ∀ p ∈ ps, BytesV w p.2 p.1.b

theorem DeedsV.kept {w w' : World} {v : Value} {ps : List (Deed × Value)} (h : DeedsV w v ps) (hk : Kept NoBlock w w') : DeedsV w' v ps := by
  obtain ⟨ap, cap, rfl, h1, h2, h3⟩ := h
  exact ⟨ap, cap, rfl, h1.keptS hk (fun _ _ h => h), h2, h3⟩
theorem BsV.kept {w w' : World} {ps : List (Deed × Value)} (h : BsV w ps) (hk : Kept NoBlock w w') : BsV w' ps := fun p hp => (h p hp).keptNo hk

theorem add_off (a : Addr) (i j : Nat) (hj : j ≠ 0) : a.add (i + j) = ⟨(a.add i).block, (a.add i).off + j, none⟩ := by
  rw [← addr_add_add]
  generalize a.add i = b
  simp [Addr.add, hj]

theorem DeedsV.at {w : World} {ap : Option Addr} {n cap : Nat} {ps : List (Deed × Value)} (h : DeedsV w (.slice ap n cap) ps) {i : Nat} {p : Deed × Value} (hi : ps[i]? = some p) :
    ∃ ad, ap = some ad ∧ w.cell? (ad.add (i * 5)) = some (.int .i64 p.1.kind) ∧ w.cell? ⟨(ad.add (i * 5)).block, (ad.add (i * 5)).off + 1, none⟩ = some (.int .i64 p.1.a) ∧ w.cell? ⟨(ad.add (i * 5)).block, (ad.add (i * 5)).off + 2, none⟩ = some (.int .i64 p.1.n) ∧
      w.cell? ⟨(ad.add (i * 5)).block, (ad.add (i * 5)).off + 3, none⟩ = some (.int .u64 p.1.draw) ∧ w.cell? ⟨(ad.add (i * 5)).block, (ad.add (i * 5)).off + 4, none⟩ = some p.2 := by
  obtain ⟨ap', cap', e, h1, h2, h3⟩ := h
  cases e
  have hl := (List.getElem?_eq_some_iff.1 hi).1
  obtain ⟨ad, rfl, hc⟩ := h1.2 (by omega)
  refine ⟨ad, rfl, hc _ _ (dCells_at ps i 0 p hi (by decide)), ?_, ?_, ?_, ?_⟩
  · rw [← add_off ad (i * 5) 1 (by decide)]; exact hc _ _ (dCells_at ps i 1 p hi (by decide))
  · rw [← add_off ad (i * 5) 2 (by decide)]; exact hc _ _ (dCells_at ps i 2 p hi (by decide))
  · rw [← add_off ad (i * 5) 3 (by decide)]; exact hc _ _ (dCells_at ps i 3 p hi (by decide))
  · rw [← add_off ad (i * 5) 4 (by decide)]; exact hc _ _ (dCells_at ps i 4 p hi (by decide))

/-- A row of deeds that the call itself has made. -/
def OwnD (w : World) (base : Nat) (v : Value) (ps : List (Deed × Value)) : Prop := w.ownsRow base 36 5 v ps.length (ps.flatMap dCells)
theorem OwnD.nil (w : World) (base : Nat) : OwnD w base (.slice none 0 0) [] := World.ownsRow_nil _ _ _ _
theorem OwnD.deeds {w : World} {base : Nat} {v : Value} {ps : List (Deed × Value)} (h : OwnD w base v ps) : DeedsV w v ps := by
  have hl : (ps.flatMap dCells).length = 5 * ps.length := dCells_len ps
  rcases h.2 with ⟨rfl, h0⟩ | ⟨g, cap, cur, rfl, hb, hg, hn, _, _, _⟩
  · refine ⟨none, 0, by rw [h0], ⟨hl, fun hp => ?_⟩, by omega, fun _ => rfl⟩
    omega
  · exact ⟨some ⟨g, 0, none⟩, cap, rfl, ⟨hl, fun _ => ⟨_, rfl, World.ownsRow.cells h rfl⟩⟩, hn, fun h => by cases h⟩
theorem OwnD.form {w : World} {base : Nat} {v : Value} {ps : List (Deed × Value)} (h : OwnD w base v ps) : ∃ ap cap, v = .slice ap ps.length cap ∧ ps.length ≤ cap := by
  obtain ⟨ap, cap, rfl, _, h, _⟩ := h.deeds
  exact ⟨ap, cap, rfl, h⟩
theorem OwnD.kept {w w' : World} {base : Nat} {v : Value} {ps : List (Deed × Value)} (h : OwnD w base v ps) (hk : Kept NoBlock w w') : OwnD w' base v ps := by
  refine ⟨h.1, ?_⟩
  rcases h.2 with hn | ⟨g, cap, cur, rfl, hb, hg, rest⟩
  · exact .inl hn
  · exact .inr ⟨g, cap, cur, rfl, hb, hk.heap hg (fun h => h), rest⟩
theorem OwnD.lt {w : World} {base : Nat} {v : Value} {ps : List (Deed × Value)} (h : OwnD w base v ps) : ∀ k, v.ownBlock = some k → base ≤ k ∧ k < w.heap.size := World.ownsRow.lt h
theorem Kept.appD {w0 w w' : World} {base : Nat} {v : Value} {ps : List (Deed × Value)} {S : Nat → Prop} (hk : Kept S w0 w) (hown : OwnD w base v ps) (hb : w0.heap.size ≤ base) (hg : w.grownBy w' v.ownBlock) : Kept S w0 w' :=
  hk.grown hg (fun k e hlt => absurd hlt (by have := (hown.lt k e).1; omega))

theorem deedInfo : (Tryd.prog.info? 36).map (fun i => (i.zero, i.size, i.bytes)) = some (some (.agg #[.int .i64 0, .int .i64 0, .int .i64 0, .int .u64 0, .slice none 0 0]), 5, 56) := by kernel_rfl

/-- 'append(l, d)'. -/
theorem wpList_appD {w : World} {ops : Array Oper} {rest : List Oper} {o : Oper} {a : Act} {Q : Exit → Act → World → Prop} (hgd : o.guard = none) (s x : Operand)
    (ho : o.op = .call { callee := .builtin .append, args := #[s, x], argTypes := #[53, 53] })
    (base : Nat) (v : Value) (ps : List (Deed × Value)) (hs : a.eval s = v) (hown : OwnD w base v ps) (b : Nat) (p : Deed × Value) (hx : a.eval x = .slice (some ⟨b, 0, none⟩) 1 1)
    (hu : w.heap[b]? = some (.cells #[.int .i64 p.1.kind, .int .i64 p.1.a, .int .i64 p.1.n, .int .u64 p.1.draw, p.2] 36 (0, 0))) (h1 : p.2.oneCell' = true) (hlen : ps.length ≤ 1100000) (hbase : base ≤ w.heap.size)
    (h : ∀ v' w', OwnD w' base v' (ps ++ [p]) → w.grownBy w' v.ownBlock → wpList Tryd.prog ops Q rest (a.put o.dst v') w') : wpList Tryd.prog ops Q (o :: rest) a w := by
  obtain ⟨i0, hi, hz0, hz1, hz2⟩ := info_parts deedInfo
  refine wpList_append_own (P := Tryd.prog) w hgd s x 53 ho base 36 i0 _ 5 56 Tryd.underlying53 hi hz0 hz1 hz2 rfl (by decide) v ps.length (ps.flatMap dCells) hs hown ⟨b, 0, none⟩ 1 1 (dCells p) hx rfl
    (fun j u hj => by rw [addr_add, Nat.zero_add]; exact cellB hu (by simpa [dCells] using hj))
    (fun u hu' => dCells_one [p] (fun q hq => by obtain rfl := List.mem_singleton.1 hq; exact h1) u (by simpa using hu')) (by unfold maxLen; omega) (by omega) hbase ?_
  intro v' w' hr hg _
  refine h v' w' ?_ hg
  unfold OwnD
  rw [List.length_append, List.flatMap_append]
  simpa using hr

/-- A deed's bytes, cut: where they lie. -/
def cutW (p : Deed × Value) : Value := match p.2 with | .slice ap _ cap => .slice ap (p.1.b.take 2000).length cap | v => v
def cutP (p : Deed × Value) : Deed × Value := (⟨p.1.kind, p.1.a, p.1.n, p.1.draw, p.1.b.take 2000⟩, cutW p)
end Go.Proofs.YtdinkdmkbfbjbaaDoor
namespace Go.Proofs.YtdinkdmkbfbjbaaDoor
open Go.RowKit
attribute [local go_sem] fold_part fold_some fold_some' partAt_zero

structure Conf where
  c0 : Int
  c1 : Int
  c2 : Int
  c3 : Int
  c4 : Int
structure Conf.Fits (c : Conf) : Prop where
  h0 : -9223372036854775808 ≤ c.c0 ∧ c.c0 ≤ 9223372036854775807
  h1 : -9223372036854775808 ≤ c.c1 ∧ c.c1 ≤ 9223372036854775807
  h2 : -9223372036854775808 ≤ c.c2 ∧ c.c2 ≤ 9223372036854775807
  h3 : -9223372036854775808 ≤ c.c3 ∧ c.c3 ≤ 9223372036854775807
  h4 : -9223372036854775808 ≤ c.c4 ∧ c.c4 ≤ 9223372036854775807
def Conf.list (c : Conf) : List Int := [c.c0, c.c1, c.c2, c.c3, c.c4]
def confV (c : Conf) : Value := .agg #[.int .i64 c.c0, .int .i64 c.c1, .int .i64 c.c2, .int .i64 c.c3, .int .i64 c.c4]
def headA (l : List Int) : Bs := l.flatMap fun n => 32 :: Lib.itoa n
def headC (c : Conf) : Bs := [119, 111, 114, 108, 100] ++ headA c.list
theorem headA_snoc (l : List Int) (n : Int) : headA (l ++ [n]) = headA l ++ (32 :: Lib.itoa n) := by simp [headA]
theorem headA_len : ∀ l : List Int, (∀ n ∈ l, -9223372036854775808 ≤ n ∧ n ≤ 9223372036854775807) → (headA l).length ≤ 31 * l.length
  | [], _ => by simp [headA]
  | n :: l, h => by
    have := itoa_len n (h n (by simp))
    have := headA_len l (fun m hm => h m (by simp [hm]))
    simp only [headA, List.flatMap_cons, List.length_append, List.length_cons] at this ⊢
    omega
theorem Conf.Fits.all {c : Conf} (h : c.Fits) : ∀ n ∈ c.list, -9223372036854775808 ≤ n ∧ n ≤ 9223372036854775807 := by
  intro n hn
  simp only [Conf.list, List.mem_cons, List.not_mem_nil, or_false] at hn
  rcases hn with rfl | rfl | rfl | rfl | rfl
  · exact h.h0
  · exact h.h1
  · exact h.h2
  · exact h.h3
  · exact h.h4
theorem headC_len {c : Conf} (h : c.Fits) : (headC c).length ≤ 200 := by
  have := headA_len c.list h.all
  simp only [headC, List.length_append, List.length_cons, List.length_nil]
  have e : c.list.length = 5 := rfl
  omega

set_option maxRecDepth 100000 in
set_option maxHeartbeats 3200000 in
theorem rhead (c : Conf) (hf : c.Fits) (w : World) :
    Calls Tryd.prog 49 #[confV c] w fun e w' => e = .returned (.string ⟨(headC c).toArray⟩) ∧ Kept NoBlock w w' := by
  have hn := fun n W (h : -9223372036854775808 ≤ n ∧ n ≤ 9223372036854775807) => rnumber n h W
  have hl := fun n (h : -9223372036854775808 ≤ n ∧ n ≤ 9223372036854775807) => itoa_len n h
  obtain ⟨a0, a1, a2, a3, a4⟩ := c
  obtain ⟨h0, h1, h2, h3, h4⟩ := hf
  simp only at h0 h1 h2 h3 h4
  have n0 := fun W => hn a0 W h0
  have l0 := hl a0 h0
  obtain ⟨S0, e0⟩ : ∃ S : ByteArray, S = ⟨(32 :: Lib.itoa a0).toArray⟩ := ⟨_, rfl⟩
  have s0 : S0.size ≤ 31 := by rw [str_size e0, List.length_cons]; omega
  rw [← e0] at n0
  have N0 := Lib.hid n0
  have E0 := Lib.hid e0
  have n1 := fun W => hn a1 W h1
  have l1 := hl a1 h1
  obtain ⟨S1, e1⟩ : ∃ S : ByteArray, S = ⟨(32 :: Lib.itoa a1).toArray⟩ := ⟨_, rfl⟩
  have s1 : S1.size ≤ 31 := by rw [str_size e1, List.length_cons]; omega
  rw [← e1] at n1
  have N1 := Lib.hid n1
  have E1 := Lib.hid e1
  have n2 := fun W => hn a2 W h2
  have l2 := hl a2 h2
  obtain ⟨S2, e2⟩ : ∃ S : ByteArray, S = ⟨(32 :: Lib.itoa a2).toArray⟩ := ⟨_, rfl⟩
  have s2 : S2.size ≤ 31 := by rw [str_size e2, List.length_cons]; omega
  rw [← e2] at n2
  have N2 := Lib.hid n2
  have E2 := Lib.hid e2
  have n3 := fun W => hn a3 W h3
  have l3 := hl a3 h3
  obtain ⟨S3, e3⟩ : ∃ S : ByteArray, S = ⟨(32 :: Lib.itoa a3).toArray⟩ := ⟨_, rfl⟩
  have s3 : S3.size ≤ 31 := by rw [str_size e3, List.length_cons]; omega
  rw [← e3] at n3
  have N3 := Lib.hid n3
  have E3 := Lib.hid e3
  have n4 := fun W => hn a4 W h4
  have l4 := hl a4 h4
  obtain ⟨S4, e4⟩ : ∃ S : ByteArray, S = ⟨(32 :: Lib.itoa a4).toArray⟩ := ⟨_, rfl⟩
  have s4 : S4.size ≤ 31 := by rw [str_size e4, List.length_cons]; omega
  rw [← e4] at n4
  have N4 := Lib.hid n4
  have E4 := Lib.hid e4
  clear hn hl h0 h1 h2 h3 h4 n0 l0 e0 n1 l1 e1 n2 l2 e2 n3 l3 e3 n4 l4 e4
  unfold confV
  simp only
  have hcells : ∀ W, Kept NoBlock (w.alloc (.cells #[.int .i64 a0, .int .i64 a1, .int .i64 a2, .int .i64 a3, .int .i64 a4] 52)) W →
      W.cell? ⟨w.heap.size, 0, none⟩ = some (.int .i64 a0) ∧ W.cell? ⟨w.heap.size, 1, none⟩ = some (.int .i64 a1) ∧ W.cell? ⟨w.heap.size, 2, none⟩ = some (.int .i64 a2) ∧ W.cell? ⟨w.heap.size, 3, none⟩ = some (.int .i64 a3) ∧ W.cell? ⟨w.heap.size, 4, none⟩ = some (.int .i64 a4) := fun W hk =>
    blk5 (T := 52) (hk.heap (heap_alloc_new w _) (fun h => h))
  have HCL := Lib.hid hcells
  have HKW := Lib.hid (Kept.allocd w (.cells #[.int .i64 a0, .int .i64 a1, .int .i64 a2, .int .i64 a3, .int .i64 a4] 52))
  clear hcells
  have z0 : ¬ (9223372036854775807 < 5 + S0.size) := by omega
  have z1 : ¬ (9223372036854775807 < 5 + S0.size + S1.size) := by omega
  have z2 : ¬ (9223372036854775807 < 5 + S0.size + S1.size + S2.size) := by omega
  have z3 : ¬ (9223372036854775807 < 5 + S0.size + S1.size + S2.size + S3.size) := by omega
  have z4 : ¬ (9223372036854775807 < 5 + S0.size + S1.size + S2.size + S3.size + S4.size) := by omega
  go_enter Tryd.func49, Tryd.ntmps49
  go_wp2_with fail
  generalize w.alloc (.cells #[.int .i64 a0, .int .i64 a1, .int .i64 a2, .int .i64 a3, .int .i64 a4] 52) = W1 at *
  refine wp_planC (fun W => Kept NoBlock W1 W) 27 [.flt 4, .flt 5, .flt 6, .flt 9, .flt 10, .flt 11, .flt 12, .flt 15, .flt 16, .flt 17, .flt 18, .flt 21, .flt 22, .flt 23, .seg [0, 1] 2, .flt 3, .seg [] 7, .flt 8, .seg [] 13, .flt 14, .seg [] 19, .flt 20, .seg [] 24] [25, 26] (by kernel_rfl) (by kernel_rfl) (fun _ _ _ dst _ h => by cases dst <;> exact h) (fun _ _ h => h.drewN _) (Kept.refl _ _) (fun q0 => ?_)
  simp only [wpPlanC, pick, List.filterMap_cons, List.filterMap_nil, List.getElem?_cons_succ, List.getElem?_cons_zero]
  iterate 14 (refine wpFloat_ex rfl ?_; apply Exists.intro; refine ⟨fun w' hw' => ?_, ?_⟩; (obtain ⟨u0, u1, u2, u3, u4⟩ := HCL.out w' hw'; go_simp; first | rfl | exact ⟨rfl, rfl⟩); simp only [Act.put, List.setIfInBounds_toArray, List.set_cons_succ, List.set_cons_zero])
  obtain ⟨d0, d1, d2, d3, d4⟩ := HCL.out _ (Kept.refl _ _)
  repeat (quiet_step (fail))
  refine wpQuiet_nil ?_
  rintro _ ⟨q1, rfl⟩
  go_wp2_with fail
  refine (N0.out _).mono ?_
  rintro e w2 ⟨rfl, hk⟩
  have HK0 := Lib.hid (((Kept.refl NoBlock W1).drewN _).trans hk)
  clear hk
  go_wp2_with fail
  refine Halt.mk ⟨.inr HK0.out, ?_⟩
  (refine wpFloat_ex rfl ?_; apply Exists.intro; refine ⟨fun w' hw' => ?_, ?_⟩; (go_simp; first | rfl | exact ⟨rfl, rfl⟩); simp only [Act.put, List.setIfInBounds_toArray, List.set_cons_succ, List.set_cons_zero])
  clear d0 d1 d2 d3 d4
  go_wp2_with fail
  refine (N1.out _).mono ?_
  rintro e w3 ⟨rfl, hk⟩
  have HK1 := Lib.hid (HK0.out.trans hk)
  clear hk
  go_wp2_with fail
  refine Halt.mk ⟨.inr HK1.out, ?_⟩
  (refine wpFloat_ex rfl ?_; apply Exists.intro; refine ⟨fun w' hw' => ?_, ?_⟩; (go_simp; first | rfl | exact ⟨rfl, rfl⟩); simp only [Act.put, List.setIfInBounds_toArray, List.set_cons_succ, List.set_cons_zero])
  go_wp2_with fail
  refine (N2.out _).mono ?_
  rintro e w4 ⟨rfl, hk⟩
  have HK2 := Lib.hid (HK1.out.trans hk)
  clear hk
  go_wp2_with fail
  refine Halt.mk ⟨.inr HK2.out, ?_⟩
  (refine wpFloat_ex rfl ?_; apply Exists.intro; refine ⟨fun w' hw' => ?_, ?_⟩; (go_simp; first | rfl | exact ⟨rfl, rfl⟩); simp only [Act.put, List.setIfInBounds_toArray, List.set_cons_succ, List.set_cons_zero])
  go_wp2_with fail
  refine (N3.out _).mono ?_
  rintro e w5 ⟨rfl, hk⟩
  have HK3 := Lib.hid (HK2.out.trans hk)
  clear hk
  go_wp2_with fail
  refine Halt.mk ⟨.inr HK3.out, ?_⟩
  (refine wpFloat_ex rfl ?_; apply Exists.intro; refine ⟨fun w' hw' => ?_, ?_⟩; (go_simp; first | rfl | exact ⟨rfl, rfl⟩); simp only [Act.put, List.setIfInBounds_toArray, List.set_cons_succ, List.set_cons_zero])
  go_wp2_with fail
  refine (N4.out _).mono ?_
  rintro e w6 ⟨rfl, hk⟩
  have HK4 := Lib.hid (HK3.out.trans hk)
  clear hk
  go_wp2_with fail
  refine Halt.mk ⟨.inr HK4.out, ?_⟩
  repeat (quiet_step (fail))
  refine wpQuiet_nil ?_
  rintro _ ⟨q6, rfl⟩
  go_wp2_with fail
  go_ret
  refine ⟨?_, HKW.out.trans (HK4.out.drewN _)⟩
  rw [E0.out, E1.out, E2.out, E3.out, E4.out]
  show Ending.returned (.string ((((((⟨#[119, 111, 114, 108, 100]⟩ : ByteArray) ++ ⟨(32 :: Lib.itoa a0).toArray⟩) ++ ⟨(32 :: Lib.itoa a1).toArray⟩) ++ ⟨(32 :: Lib.itoa a2).toArray⟩) ++ ⟨(32 :: Lib.itoa a3).toArray⟩) ++ ⟨(32 :: Lib.itoa a4).toArray⟩)) = _
  rw [show (⟨#[119, 111, 114, 108, 100]⟩ : ByteArray) = ⟨([119, 111, 114, 108, 100] : Bs).toArray⟩ from rfl]
  simp only [str_app]
  simp [headC, headA, Conf.list]
end Go.Proofs.YtdinkdmkbfbjbaaDoor
namespace Go.Proofs.YtdinkdmkbfbjbaaDoor
open Go.RowKit
attribute [local go_sem] fold_part fold_some fold_some' partAt_zero

def badT (d : Deed) : Bool := decide ((textD d).2 ≠ 0)
def FitsL (ps : List (Deed × Value)) : Prop := ∀ p ∈ ps, p.1.Fits

theorem textD_code (d : Deed) : (textD d).2 = 0 ∨ (textD d).2 = 251 := by unfold textD; split; exact .inr rfl; split; exact .inl rfl; exact .inr rfl

set_option maxRecDepth 100000 in
theorem pbad (v : Value) (d : Deed) (w : World) (hV : Vs w) (h : DeedV w v d) (hf : d.Fits) :
    Calls Tryd.prog 46 #[v] w fun e w' => e = .returned (.bool (badT d)) ∧ Kept NoBlock w w' := by
  have ht := fun W (hk : Kept NoBlock w W) => ptext v d W (hV.below hk.toB) (h.kept hk) hf
  obtain ⟨bv, rfl, hb⟩ := h
  obtain ⟨ap, cap, rfl, _⟩ := hb.parts
  have hco := textD_code d
  unfold badT
  generalize textD d = T at *
  obtain ⟨T1, T2⟩ := T
  simp only at ht hco ⊢
  have HT := Lib.hid ht
  have hcl := blk5 (heap_alloc_new w (.cells #[.int .i64 d.kind, .int .i64 d.a, .int .i64 d.n, .int .u64 d.draw, .slice ap d.b.length cap] 36))
  have HK := Lib.hid (Kept.allocd w (.cells #[.int .i64 d.kind, .int .i64 d.a, .int .i64 d.n, .int .u64 d.draw, .slice ap d.b.length cap] 36))
  have HCL := Lib.hid hcl
  clear ht hb hV hf hcl
  generalize (⟨T1.toArray⟩ : ByteArray) = S at *
  generalize d.b.length = m at *
  go_enter Tryd.func46, Tryd.ntmps46
  go_wp2_with fail
  generalize w.alloc (.cells #[.int .i64 d.kind, .int .i64 d.a, .int .i64 d.n, .int .u64 d.draw, .slice ap m cap] 36) = W1 at *
  refine (HT.out _ HK.out).mono ?_
  rintro e w2 ⟨rfl, hk⟩
  rcases hco with rfl | rfl
  · go_wp2_with fail
    go_ret
    exact ⟨rfl, HK.out.trans hk⟩
  · go_wp2_with fail
    go_ret
    exact ⟨rfl, HK.out.trans hk⟩

set_option maxRecDepth 100000 in
set_option maxHeartbeats 1600000 in
theorem pindexf (v : Value) (ps : List (Deed × Value)) (w : World) (hV : Vs w) (h : DeedsV w v ps) (hb : BsV w ps) (hf : FitsL ps) (hlen : ps.length ≤ 1000000) :
    Calls Tryd.prog 67 #[v, .func (.func 46) #[] #[]] w fun e w' => ∃ r : Int, e = .returned (.int .i64 r) ∧ ((0 ≤ r ∧ (ps.any fun p => badT p.1) = true) ∨ (r = -1 ∧ (ps.any fun p => badT p.1) = false)) ∧ Kept NoBlock w w' := by
  have hDV := h
  obtain ⟨ap, cap, rfl, hH, hcap, _⟩ := h
  have hpb := fun p (hp : p ∈ ps) v W (hk : Kept NoBlock w W) (hv : DeedV W v p.1) => pbad v p.1 W (hV.below hk.toB) hv (hf p hp)
  have HPB := Lib.hid hpb
  have HDV := Lib.hid hDV
  have HB := Lib.hid hb
  obtain ⟨n, hN⟩ : ∃ n, n = ps.length := ⟨_, rfl⟩
  have hn : n ≤ 1000000 := by omega
  rw [← hN] at HDV hcap ⊢
  have HN := Lib.hid hN
  clear hDV hH hb hlen hN hV hf hpb
  generalize hA : (ps.any fun p => badT p.1) = A
  have HA := Lib.hid hA
  clear hA
  go_enter Tryd.func67, Tryd.ntmps67
  go_wp2
  go_loopw [8] (fun vi wr => ∃ i : Nat, vi = .int .i64 i ∧ i ≤ n ∧ ((ps.take i).any fun p => badT p.1) = false ∧ Kept NoBlock w wr) (fun vi _ => n - (intOf vi).toNat)
  case atStart => exact ⟨0, rfl, Nat.zero_le _, rfl, Kept.refl _ _⟩
  case round =>
    obtain ⟨i, rfl, hi, hno, hK⟩ := hrel
    have HNO := Lib.hid hno
    have HK := Lib.hid hK
    clear hno hK
    by_cases hlt : i < n
    · have hltI : (i : Int) < (n : Int) := by omega
      have hil : i < ps.length := by have := HN.out; omega
      obtain ⟨p, hp⟩ : ∃ p, ps[i]? = some p := ⟨ps[i], List.getElem?_eq_getElem hil⟩
      have hpm := List.mem_of_getElem? hp
      obtain ⟨ad, rfl, a0, a1, a2, a3, a4⟩ := (HDV.out.kept HK.out).at hp
      have hbv := (HB.out p hpm).keptNo HK.out
      have htk : ((ps.take (i + 1)).any fun p => badT p.1) = badT p.1 := by rw [List.take_add_one, hp, List.any_append, HNO.out]; simp
      have hall : badT p.1 = true → A = true := fun h => by
        rw [← HA.out, List.any_eq_true]
        exact ⟨p, hpm, h⟩
      have hcall := HPB.out p hpm
      obtain ⟨d, bv⟩ := p
      simp only at a0 a1 a2 a3 a4 hbv htk hall hcall
      obtain ⟨bp, bc, rfl, _⟩ := hbv.parts
      have HBV := Lib.hid hbv
      have HTK := Lib.hid htk
      have HALL := Lib.hid hall
      have HC := Lib.hid hcall
      clear hp hpm hbv htk hall hcall hil
      generalize badT d = B at *
      go_wp2_with fail
      refine (HC.out _ _ HK.out ⟨_, rfl, HBV.out⟩).mono ?_
      rintro e w2 ⟨rfl, hk⟩
      have HK2 := Lib.hid (HK.out.trans hk)
      clear hk
      cases B with
      | true =>
        go_wp2
        go_ret
        exact ⟨_, rfl, .inl ⟨by omega, HALL.out trivial⟩, HK2.out⟩
      | false =>
        go_wp2
        go_roundw
        case rel => exact ⟨i + 1, by go_num, by omega, HTK.out, HK2.out⟩
        case measure => simp [intOf]; omega
    · obtain rfl : i = n := by omega
      have hfin : A = false := by rw [← HA.out, ← HNO.out, List.take_of_length_le (by have := HN.out; omega)]
      have HFIN := Lib.hid hfin
      clear hfin
      go_wp2
      go_ret
      exact ⟨_, rfl, .inr ⟨rfl, HFIN.out⟩, HK.out⟩

theorem pcontains (v : Value) (ps : List (Deed × Value)) (w : World) (hV : Vs w) (h : DeedsV w v ps) (hb : BsV w ps) (hf : FitsL ps) (hlen : ps.length ≤ 1000000) :
    Calls Tryd.prog 45 #[v, .func (.func 46) #[] #[]] w fun e w' => e = .returned (.bool (ps.any fun p => badT p.1)) ∧ Kept NoBlock w w' := by
  have hx := pindexf v ps w hV h hb hf hlen
  obtain ⟨ap, cap, rfl, _⟩ := h
  generalize (ps.any fun p => badT p.1) = A at *
  generalize ps.length = n at *
  have HX := Lib.hid hx
  clear hx hb hf
  go_enter Tryd.func45, Tryd.ntmps45
  go_wp2_with fail
  refine HX.out.mono ?_
  rintro e w2 ⟨r, rfl, hr, hk⟩
  have HK := Lib.hid hk
  clear hk
  rcases hr with ⟨h0, rfl⟩ | ⟨rfl, rfl⟩
  · go_wp2_with fail
    go_ret
    exact ⟨rfl, HK.out⟩
  · go_wp2_with fail
    go_ret
    exact ⟨rfl, HK.out⟩
end Go.Proofs.YtdinkdmkbfbjbaaDoor
namespace Go.Proofs.YtdinkdmkbfbjbaaDoor
open Go.RowKit
attribute [local go_sem] fold_part fold_some fold_some' partAt_zero

def headP (c : Conf) (i : Nat) : Bs := [119, 111, 114, 108, 100] ++ headA (c.list.take i)
theorem headP_full (c : Conf) : headP c 5 = headC c := rfl
theorem headP_len {c : Conf} (h : c.Fits) (i : Nat) : (headP c i).length ≤ 200 := by
  have := headA_len (c.list.take i) (fun n hn => h.all n (List.mem_of_mem_take hn))
  have e : (c.list.take i).length ≤ 5 := by rw [List.length_take]; exact Nat.le_trans (Nat.min_le_right _ _) (Nat.le_refl 5)
  simp only [headP, List.length_append, List.length_cons, List.length_nil]
  omega

set_option maxRecDepth 100000 in
set_option maxHeartbeats 3200000 in
theorem phead (c : Conf) (hf : c.Fits) (w : World) (hV : Vs w) :
    Calls Tryd.prog 47 #[confV c] w fun e w' => e = .returned (.string ⟨(headC c).toArray⟩) ∧ Kept NoBlock w w' := by
  have hn := fun n W (h : -9223372036854775808 ≤ n ∧ n ≤ 9223372036854775807) (hk : Kept NoBlock w W) => (ntext n h.1 h.2 W (hV.below hk.toB)).mono (R' := fun e w' => e = .returned (.string ⟨(Lib.itoa n).toArray⟩) ∧ Kept NoBlock W w') (fun _ _ ⟨e, h⟩ => ⟨e, Kept.ofB h⟩)
  have hall := hf.all
  have hpl := headP_len hf
  have hil := fun n (h : -9223372036854775808 ≤ n ∧ n ≤ 9223372036854775807) => itoa_len n h
  have HNT := Lib.hid hn
  have HALL := Lib.hid hall
  have HPL := Lib.hid hpl
  have HIL := Lib.hid hil
  clear hn hall hpl hil hf hV
  have hW2 := heap_alloc_new (w.alloc (.cells #[.int .i64 c.c0, .int .i64 c.c1, .int .i64 c.c2, .int .i64 c.c3, .int .i64 c.c4] 52)) (.cells #[.int .i64 c.c0, .int .i64 c.c1, .int .i64 c.c2, .int .i64 c.c3, .int .i64 c.c4] 3)
  rw [World.size_alloc] at hW2
  have HW2 := Lib.hid hW2
  have HK2 := Lib.hid ((Kept.allocd w (.cells #[.int .i64 c.c0, .int .i64 c.c1, .int .i64 c.c2, .int .i64 c.c3, .int .i64 c.c4] 52)).alloc (.cells #[.int .i64 c.c0, .int .i64 c.c1, .int .i64 c.c2, .int .i64 c.c3, .int .i64 c.c4] 3))
  clear hW2
  unfold confV
  go_enter Tryd.func47, Tryd.ntmps47
  go_wp2
  generalize (w.alloc (.cells #[.int .i64 c.c0, .int .i64 c.c1, .int .i64 c.c2, .int .i64 c.c3, .int .i64 c.c4] 52)).alloc (.cells #[.int .i64 c.c0, .int .i64 c.c1, .int .i64 c.c2, .int .i64 c.c3, .int .i64 c.c4] 3) = W2 at *
  go_loopw [3, 24] (fun vs vi wr => ∃ i : Nat, vi = .int .i64 i ∧ i ≤ 5 ∧ vs = .string ⟨(headP c i).toArray⟩ ∧ Kept NoBlock W2 wr) (fun _ vi _ => 5 - (intOf vi).toNat)
  case atStart => exact ⟨0, rfl, by decide, rfl, Kept.refl _ _⟩
  case round =>
    obtain ⟨i, rfl, hi, rfl, hK⟩ := hrel
    have HK := Lib.hid hK
    clear hK
    by_cases hlt : i < 5
    · have hltI : (i : Int) < 5 := by omega
      obtain ⟨n, hn⟩ : ∃ n, c.list[i]? = some n := ⟨c.list[i]'hlt, List.getElem?_eq_getElem hlt⟩
      have hcell : wr.cell? ⟨w.heap.size + 1, i, none⟩ = some (.int .i64 n) := by
        refine cellB (HK.out.heap HW2.out (fun h => h)) ?_
        have : (#[Value.int .i64 c.c0, .int .i64 c.c1, .int .i64 c.c2, .int .i64 c.c3, .int .i64 c.c4] : Array Value) = (c.list.map (Value.int .i64)).toArray := rfl
        rw [this]
        simp [hn]
      have hr := HALL.out n (List.mem_of_getElem? hn)
      have hst : headP c (i + 1) = headP c i ++ ([32] ++ Lib.itoa n) := by
        unfold headP
        rw [List.take_add_one, hn]
        simp [headA]
      have hs := HPL.out i
      obtain ⟨S, hS⟩ : ∃ S : ByteArray, S = ⟨(headP c i).toArray⟩ := ⟨_, rfl⟩
      have hSz : S.size ≤ 200 := by rw [str_size hS]; exact hs
      have ht := HNT.out n
      have hl := HIL.out n hr
      obtain ⟨A, hA⟩ : ∃ A : ByteArray, A = ⟨(Lib.itoa n).toArray⟩ := ⟨_, rfl⟩
      have hAz : A.size ≤ 30 := by rw [str_size hA]; exact hl
      rw [← hA] at ht
      rw [← hS]
      have HR := Lib.hid hr
      have HT := Lib.hid ht
      have HS := Lib.hid hS
      have HA := Lib.hid hA
      have HST := Lib.hid hst
      clear hn hr ht hS hA hst hs hl
      go_wp2_with fail
      refine (HT.out _ HR.out (HK2.out.trans HK.out)).mono ?_
      rintro e w3 ⟨rfl, hk⟩
      have HK3 := Lib.hid (HK.out.trans hk)
      clear hk hcell
      go_wp2
      go_roundw
      case rel =>
        refine ⟨i + 1, by go_num, by omega, ?_, HK3.out⟩
        rw [HST.out, HS.out, HA.out]
        show Value.string ((⟨(headP c i).toArray⟩ : ByteArray) ++ ((⟨([32] : Bs).toArray⟩ : ByteArray) ++ ⟨(Lib.itoa n).toArray⟩)) = _
        rw [str_app, str_app]
      case measure => simp [intOf]; omega
    · obtain rfl : i = 5 := by omega
      rw [headP_full]
      go_wp2
      go_ret
      exact ⟨rfl, HK2.out.trans HK.out⟩
end Go.Proofs.YtdinkdmkbfbjbaaDoor
namespace Go.Proofs.YtdinkdmkbfbjbaaDoor
open Go.RowKit
attribute [local go_sem] fold_part fold_some fold_some' partAt_zero

def linesA (L : List Deed) : Bs := L.flatMap fun d => lineD d ++ [10]
/-- A script's text and its code. -/
def printD (c : Conf) (L : List Deed) : Bs × Int := if (L.any badT) = true then ([], 251) else (headC c ++ [10] ++ linesA L, 0)
theorem lineD_len {d : Deed} (h : d.Fits) : (lineD d).length ≤ 32200 := by
  obtain ⟨k, a, n, dr, b⟩ := d
  obtain ⟨hk, ha, hn, hdr, hbl⟩ := h
  simp only at ha hn hdr hbl
  have hla := itoa_len a ha
  have hln := itoa_len n hn
  have hld := dec_len dr hdr
  have hlq : (quote b).length ≤ 32010 := by have := (quoteA_len b).2; simp only [quote, List.length_cons, List.length_append, List.length_nil]; omega
  unfold lineD
  simp only
  repeat (split; (simp only [List.length_append, List.length_cons, List.length_nil]; omega))
  simp
theorem linesA_len : ∀ L : List Deed, (∀ d ∈ L, d.Fits) → (linesA L).length ≤ 32201 * L.length
  | [], _ => by simp [linesA]
  | d :: L, h => by
    have := lineD_len (h d (by simp))
    have := linesA_len L (fun m hm => h m (by simp [hm]))
    simp only [linesA, List.flatMap_cons, List.length_append, List.length_cons, List.length_nil] at this ⊢
    omega
theorem linesA_snoc (L : List Deed) (d : Deed) : linesA (L ++ [d]) = linesA L ++ (lineD d ++ [10]) := by simp [linesA]

theorem any_fst (ps : List (Deed × Value)) : (ps.any fun p => badT p.1) = (ps.map (·.1)).any badT := by rw [List.any_map]; rfl

set_option maxRecDepth 100000 in
set_option maxHeartbeats 3200000 in
theorem pprint (c : Conf) (hc : c.Fits) (v : Value) (ps : List (Deed × Value)) (w : World) (hV : Vs w) (h : DeedsV w v ps) (hb : BsV w ps) (hf : FitsL ps) (hlen : ps.length ≤ 30) :
    Calls Tryd.prog 21 #[confV c, v] w fun e w' => e = .returned (.tuple #[.string ⟨(printD c (ps.map (·.1))).1.toArray⟩, .int .i64 (printD c (ps.map (·.1))).2]) ∧ Kept NoBlock w w' := by
  have hDV := h
  obtain ⟨ap, cap, rfl, hH, hcap, _⟩ := h
  have hco := fun W (hk : Kept NoBlock w W) => pcontains _ ps W (hV.below hk.toB) (hDV.kept hk) (hb.kept hk) hf (by omega)
  have hhd := fun W (hk : Kept NoBlock w W) => phead c hc W (hV.below hk.toB)
  have hln := fun p (hp : p ∈ ps) v W (hk : Kept NoBlock w W) (hv : DeedV W v p.1) => pline v p.1 W (hV.below hk.toB) hv (hf p hp)
  have hll := fun p (hp : p ∈ ps) => lineD_len (hf p hp)
  have hal := fun i => linesA_len ((ps.take i).map (·.1)) (fun d hd => by obtain ⟨p, hp, rfl⟩ := List.mem_map.1 hd; exact hf p (List.mem_of_mem_take hp))
  have hhl := headC_len hc
  generalize hT : printD c (ps.map (·.1)) = T
  unfold printD at hT
  rw [← any_fst] at hT
  have HCO := Lib.hid hco
  have HHD := Lib.hid hhd
  have HLN := Lib.hid hln
  have HLL := Lib.hid hll
  have HAL := Lib.hid hal
  have HHL := Lib.hid hhl
  have HT := Lib.hid hT
  have HDV := Lib.hid hDV
  have HB := Lib.hid hb
  obtain ⟨n, hN⟩ : ∃ n, n = ps.length := ⟨_, rfl⟩
  have hn : n ≤ 30 := by omega
  have hnI : ¬ ((1048576 : Int) < (n : Int)) := by omega
  rw [← hN] at HDV HCO hcap ⊢
  have HN := Lib.hid hN
  clear hH hco hhd hln hll hal hhl hT hDV hb hN hlen hV hf hc
  generalize hH' : headC c = HC at *
  clear hH'
  have HK1 := Lib.hid (Kept.allocd w (.cells #[.int .i64 c.c0, .int .i64 c.c1, .int .i64 c.c2, .int .i64 c.c3, .int .i64 c.c4] 52))
  have HG1 := Lib.hid (heap_alloc_new w (.cells #[.int .i64 c.c0, .int .i64 c.c1, .int .i64 c.c2, .int .i64 c.c3, .int .i64 c.c4] 52))
  unfold confV at HHD ⊢
  go_enter Tryd.func21, Tryd.ntmps21
  go_wp2_with fail
  generalize w.alloc (.cells #[.int .i64 c.c0, .int .i64 c.c1, .int .i64 c.c2, .int .i64 c.c3, .int .i64 c.c4] 52) = W1 at *
  refine (HCO.out _ HK1.out).mono ?_
  rintro e w2 ⟨rfl, hk⟩
  have HK2 := Lib.hid (HK1.out.trans hk)
  have HG2 := Lib.hid (hk.heap HG1.out (fun h => h))
  clear hk HG1
  cases hany : (ps.any fun p => badT p.1) with
  | true =>
    have hTT : T = ([], 251) := by rw [← HT.out, if_pos hany]
    have HTT := Lib.hid hTT
    clear hTT hany HT
    go_wp2_with fail
    go_ret2
    exact ⟨by rw [HTT.out]; rfl, HK2.out⟩
  | false =>
    have hTT : T = (HC ++ [10] ++ linesA (ps.map (·.1)), 0) := by rw [← HT.out, hany]; rfl
    have HTT := Lib.hid hTT
    clear hTT hany HT
    obtain ⟨c0, c1, c2, c3, c4⟩ := blk5 HG2.out
    have hlt2 : w.heap.size < w2.heap.size := lt_of_heap HG2.out
    have hne2 : ¬ (w.heap.size = w2.heap.size) := by omega
    obtain ⟨S, hS⟩ : ∃ S : ByteArray, S = ⟨HC.toArray⟩ := ⟨_, rfl⟩
    have hSz : S.size ≤ 200 := by rw [str_size hS]; exact HHL.out
    have HS := Lib.hid hS
    rw [← hS] at HHD
    clear hS
    have hbd := bd_made w2
    have hb3 : Below w2.heap.size w2 (w2.alloc (.cells #[.pointer none, .slice none 0 0] 75)) := (Kept.allocd w2 _).toB
    have HBD := Lib.hid hbd
    have HB3 := Lib.hid hb3
    clear hbd hb3
    go_wp2_with fail
    generalize w2.alloc (.cells #[.pointer none, .slice none 0 0] 75) = W3 at *
    refine (HHD.out _ (HK2.out.trans (Kept.ofB HB3.out))).mono ?_
    rintro e w4 ⟨rfl, hk⟩
    have HBD4 := Lib.hid (HBD.out.kept hk)
    have HB4 := Lib.hid (HB3.out.trans (hk.toB.mono HB3.out.size))
    clear hk c0 c1 c2 c3 c4 HBD HB3
    have hsz4 := HB4.out.size
    have hst := bd_string w2.heap.size w2.heap.size [] (HC ++ [10]) (S ++ ⟨#[10]⟩) (by rw [HS.out]; exact str_app HC [10]) w4 HBD4.out (by simp) (by have := HHL.out; rw [List.length_append, List.length_singleton]; omega) hsz4
    have HST := Lib.hid hst
    clear hst
    go_wp2_with fail
    refine HST.out.mono ?_
    rintro e w5 ⟨rfl, hbd, hb⟩
    have HBD5 := Lib.hid hbd
    have HB5 := Lib.hid (HB4.out.trans hb)
    clear hbd hb HBD4 HB4 HST
    go_wp2_with fail
    go_loopw [20] (fun vi wr => ∃ k : Nat, k ≤ n ∧ vi = .int .i64 k ∧ Bld w2.heap.size w2.heap.size ((HC ++ [10]) ++ linesA ((ps.take k).map (·.1))) wr ∧ Below w2.heap.size w2 wr) (fun vi _ => n - (intOf vi).toNat)
    case atStart => exact ⟨0, Nat.zero_le _, rfl, by simpa [linesA] using HBD5.out, HB5.out⟩
    case round =>
      obtain ⟨k, hk, rfl, hbd, hb⟩ := hrel
      have HBDk := Lib.hid hbd
      have HBk := Lib.hid hb
      have hsz := hb.size
      clear hbd hb HBD5 HB5
      have hlk : (linesA ((ps.take k).map (·.1))).length ≤ 1000000 := by
        have := HAL.out k
        have h2 : ((ps.take k).map (·.1)).length ≤ 30 := by rw [List.length_map, List.length_take]; omega
        omega
      have HLK := Lib.hid hlk
      clear hlk
      by_cases hlt : k < n
      · have hltI : (k : Int) < (n : Int) := by omega
        have hil : k < ps.length := by have := HN.out; omega
        obtain ⟨p, hp⟩ : ∃ p, ps[k]? = some p := ⟨ps[k], List.getElem?_eq_getElem hil⟩
        have hpm := List.mem_of_getElem? hp
        have hkw := HK2.out.trans (Kept.ofB HBk.out)
        obtain ⟨ad, rfl, a0, a1, a2, a3, a4⟩ := (HDV.out.kept hkw).at hp
        have hbv := (HB.out p hpm).keptNo hkw
        have htk : linesA ((ps.take (k + 1)).map (·.1)) = linesA ((ps.take k).map (·.1)) ++ (lineD p.1 ++ [10]) := by rw [List.take_add_one, hp, List.map_append]; simp [linesA_snoc]
        have hline := HLN.out p hpm
        have hll := HLL.out p hpm
        obtain ⟨d, bv⟩ := p
        simp only at a0 a1 a2 a3 a4 hbv htk hline hll
        obtain ⟨bp, bc, rfl, _⟩ := hbv.parts
        generalize lineD d = L at *
        obtain ⟨A, hA⟩ : ∃ A : ByteArray, A = ⟨L.toArray⟩ := ⟨_, rfl⟩
        have hAz : A.size ≤ 32200 := by rw [str_size hA]; exact hll
        rw [← hA] at hline
        have hk6 := hkw.alloc (.cells #[.int .i64 d.kind, .int .i64 d.a, .int .i64 d.n, .int .u64 d.draw, .slice bp d.b.length bc] 36)
        have hbd6 := HBDk.out.kept (Kept.allocd wr (.cells #[.int .i64 d.kind, .int .i64 d.a, .int .i64 d.n, .int .u64 d.draw, .slice bp d.b.length bc] 36))
        have hb6 := HBk.out.trans ((Kept.allocd wr (.cells #[.int .i64 d.kind, .int .i64 d.a, .int .i64 d.n, .int .u64 d.draw, .slice bp d.b.length bc] 36)).toB.mono hsz)
        have hbv6 := hbv.keptNo (Kept.allocd wr (.cells #[.int .i64 d.kind, .int .i64 d.a, .int .i64 d.n, .int .u64 d.draw, .slice bp d.b.length bc] 36))
        have HA := Lib.hid hA
        have HTK := Lib.hid htk
        have HLI := Lib.hid hline
        have HLL2 := Lib.hid hll
        have HK6 := Lib.hid hk6
        have HBD6 := Lib.hid hbd6
        have HB6 := Lib.hid hb6
        have HBV6 := Lib.hid hbv6
        clear hp hpm hkw hbv htk hline hll hA hk6 hbd6 hb6 hbv6 hil
        go_wp2_with fail
        generalize wr.alloc (.cells #[.int .i64 d.kind, .int .i64 d.a, .int .i64 d.n, .int .u64 d.draw, .slice bp d.b.length bc] 36) = W6 at *
        refine (HLI.out _ _ HK6.out ⟨_, rfl, HBV6.out⟩).mono ?_
        rintro e w7 ⟨rfl, hk7⟩
        have hb7 := HB6.out.trans (hk7.toB.mono HB6.out.size)
        have hst := bd_string w2.heap.size w2.heap.size _ (L ++ [10]) (A ++ ⟨#[10]⟩) (by rw [HA.out]; exact str_app L [10]) w7 (HBD6.out.kept hk7) (by have := HHL.out; have := HLK.out; simp only [List.length_append, List.length_singleton]; omega) (by have := HLL2.out; rw [List.length_append, List.length_singleton]; omega) hb7.size
        have HB7 := Lib.hid hb7
        have HST := Lib.hid hst
        clear hk7 hst hb7 a0 a1 a2 a3 a4
        go_wp2_with fail
        refine HST.out.mono ?_
        rintro e w8 ⟨rfl, hbd8, hb8⟩
        have HBD8 := Lib.hid hbd8
        have HB8 := Lib.hid (HB7.out.trans hb8)
        clear hbd8 hb8
        go_wp2_with fail
        have hbl := bd_len _ _ _ _ HBD8.out
        obtain ⟨mm, hmm⟩ : ∃ mm : Nat, mm = (HC ++ [10] ++ linesA ((ps.take k).map (fun p : Deed × Value => p.1)) ++ (L ++ [(10 : UInt8)]) : Bs).length := ⟨_, rfl⟩
        rw [← hmm] at hbl
        have hlen8 : ¬ ((67108864 : Int) < (mm : Int)) := by
          have := HHL.out
          have := HLK.out
          have := HLL2.out
          rw [hmm]
          simp only [List.length_append, List.length_singleton]
          omega
        clear hmm
        refine hbl.mono ?_
        rintro e w9 ⟨rfl, rfl⟩
        clear hbl
        go_wp2_with fail
        go_roundw
        case rel => exact ⟨k + 1, by omega, by go_num, by rw [HTK.out, ← List.append_assoc]; exact HBD8.out, HB8.out⟩
        case measure => simp [intOf]; omega
      · obtain rfl : k = n := by omega
        have htt : ps.take k = ps := List.take_of_length_le (by have := HN.out; omega)
        have htx := bd_text w2.heap.size w2.heap.size _ wr HBDk.out hsz
        rw [htt] at htx
        obtain ⟨X, hX⟩ : ∃ X : ByteArray, X = ⟨(HC ++ [(10 : UInt8)] ++ linesA (ps.map (fun p : Deed × Value => p.1)) : Bs).toArray⟩ := ⟨_, rfl⟩
        rw [← hX] at htx
        have HX := Lib.hid hX
        have HTX := Lib.hid htx
        clear htx htt hX
        go_wp2_with fail
        refine HTX.out.mono ?_
        rintro e w3 ⟨rfl, hb3⟩
        go_wp2_with fail
        go_ret2
        exact ⟨by rw [HTT.out]; exact congrArg (fun s => Ending.returned (.tuple #[.string s, .int .i64 0])) HX.out, HK2.out.trans (Kept.ofB (HBk.out.trans hb3))⟩
end Go.Proofs.YtdinkdmkbfbjbaaDoor
namespace Go.Proofs.YtdinkdmkbfbjbaaDoor
open Go.RowKit
attribute [local go_sem] fold_part fold_some fold_some' partAt_zero

theorem lcutB (v : Value) (b : Bs) (w : World) (h : BytesV w v b) : Calls Tryd.prog 7 #[v] w fun e w' => ∃ u, e = .returned u ∧ BytesV w u (b.take 2000) ∧ w = w' ∧ vblk u = vblk v := by
  obtain ⟨ap, cap, rfl, hc, _⟩ := h.parts
  have HB := Lib.hid h
  clear h
  by_cases hl : 2000 < b.length
  · generalize hn : b.length = n at *
    have HN := Lib.hid hn
    clear hn
    go_enter Tryd.func7, Tryd.ntmps7
    go_wp2
    go_ret
    exact ⟨_, rfl, HB.out.front 2000 (by omega), rfl, (vblk_slice ap 2000 cap).trans (vblk_slice ap n cap).symm⟩
  · generalize hn : b.length = n at *
    have HN := Lib.hid hn
    clear hn
    go_enter Tryd.func7, Tryd.ntmps7
    go_wp2
    go_ret
    exact ⟨_, rfl, by rw [List.take_of_length_le (by rw [HN.out]; omega)]; exact HB.out, rfl, rfl⟩

/-- The same, its value told. -/
theorem lcutV (ap : Option Addr) (cap : Nat) (b : Bs) (w : World) (hc : b.length ≤ cap) : Calls Tryd.prog 7 #[.slice ap b.length cap] w fun e w' => e = .returned (.slice ap (b.take 2000).length cap) ∧ w' = w := by
  by_cases hl : 2000 < b.length
  · have e1 : (b.take 2000).length = 2000 := by rw [List.length_take]; omega
    rw [e1]
    generalize hn : b.length = n at *
    clear hn e1
    go_enter Tryd.func7, Tryd.ntmps7
    go_wp2
    go_ret
    exact ⟨rfl, rfl⟩
  · have e1 : (b.take 2000).length = b.length := by rw [List.length_take]; omega
    rw [e1]
    generalize hn : b.length = n at *
    clear hn e1
    go_enter Tryd.func7, Tryd.ntmps7
    go_wp2
    go_ret
    exact ⟨rfl, rfl⟩

theorem lcutT (l : Bs) (w : World) : Calls Tryd.prog 8 #[.string ⟨l.toArray⟩] w fun e w' => e = .returned (.string ⟨(l.take 2000).toArray⟩) ∧ w = w' := by
  obtain ⟨S, hS⟩ : ∃ S : ByteArray, S = ⟨l.toArray⟩ := ⟨_, rfl⟩
  have hSz := str_size hS
  have hx : S.extract 0 2000 = ⟨(l.take 2000).toArray⟩ := by rw [hS]; exact str_take l 2000
  rw [← hS]
  by_cases hl : 2000 < S.size
  · have hlI : (2000 : Int) < (S.size : Int) := by omega
    have HX := Lib.hid hx
    clear hS hSz hx
    go_enter Tryd.func8, Tryd.ntmps8
    go_wp2
    go_ret
    exact ⟨congrArg (fun s => Ending.returned (Value.string s)) HX.out, rfl⟩
  · have hlI : ¬ ((2000 : Int) < (S.size : Int)) := by omega
    have ht : S = ⟨(l.take 2000).toArray⟩ := by rw [List.take_of_length_le (by omega)]; exact hS
    have HT := Lib.hid ht
    clear hS hSz hx ht
    go_enter Tryd.func8, Tryd.ntmps8
    go_wp2
    go_ret
    exact ⟨congrArg (fun s => Ending.returned (Value.string s)) HT.out, rfl⟩

theorem conv_of {w : World} {ap : Option Addr} {n cap : Nat} {l : Bs} (h : BytesV w (.slice ap n cap) l) : (convert 22 9 (.slice ap n cap)).run Tryd.prog w = .ok (.string ⟨l.toArray⟩) w :=
  conv_bytes w 22 9 5 Tryd.underlying22 Tryd.underlying5 Tryd.underlying9 cap (RowV.holds h).1

set_option maxRecDepth 100000 in
set_option maxHeartbeats 1600000 in
theorem law_quotes (v : Value) (b0 l0 : Bs) (w : World) (hV : Vs w) (hM : Mx w) (h : BytesV w v b0) :
    Calls Tryd.prog 3 #[v, .string ⟨l0.toArray⟩] w fun e w' => e = .returned (.bool true) ∧ Kept NoBlock w w' := by
  have cb := lcutB v b0 w h
  have ct := lcutT l0 w
  generalize hb : b0.take 2000 = b at *
  generalize hl : l0.take 2000 = l at *
  have hbl : b.length ≤ 2000 := by rw [← hb, List.length_take]; omega
  have hll : l.length ≤ 2000 := by rw [← hl, List.length_take]; omega
  have c1 := fun W => punq l (by omega) W
  have c2 := fun W => runq l (by omega) W
  have c3 := fun u W (h : BytesV W u b) => pquote u b W h (by omega)
  have c4 := fun u W (h : BytesV W u b) => rquote u b W h (by omega)
  have c5 := fun W (hk : Kept NoBlock w W) => lalive W (hV.below hk.toB) (hM.kept hk)
  obtain ⟨ap0, cap0, rfl, _, _⟩ := h.parts
  generalize (⟨l0.toArray⟩ : ByteArray) = S0 at *
  generalize (⟨l.toArray⟩ : ByteArray) = S at *
  generalize (⟨(quote b).toArray⟩ : ByteArray) = Q at *
  generalize b0.length = n0 at *
  generalize unq l = M at *
  have C1 := Lib.hid c1
  have C2 := Lib.hid c2
  have C3 := Lib.hid c3
  have C4 := Lib.hid c4
  have C5 := Lib.hid c5
  have CB := Lib.hid cb
  have CT := Lib.hid ct
  clear c1 c2 c3 c4 c5 cb ct hb hl hbl hll hV hM h
  go_enter Tryd.func3, Tryd.ntmps3
  go_wp2_with fail
  refine CB.out.mono ?_
  rintro e w1 ⟨u, rfl, hu, rfl, _⟩
  have HU := Lib.hid hu
  obtain ⟨ap1, cap1, rfl, _⟩ := hu.parts
  clear hu
  go_wp2_with fail
  refine CT.out.mono ?_
  rintro e w1 ⟨rfl, rfl⟩
  go_wp2_with fail
  refine (C1.out _).mono ?_
  rintro e w1 ⟨hk1, he1⟩
  have HK1 := Lib.hid hk1
  clear hk1
  cases M with
  | error n =>
    obtain rfl := he1
    go_wp2_with fail
    refine (C2.out _).mono ?_
    rintro e w2 ⟨hk2, rfl⟩
    have HK2 := Lib.hid (HK1.out.trans hk2)
    clear hk2
    go_wp2_with fail
    refine (C3.out _ _ (HU.out.keptNo HK2.out)).mono ?_
    rintro e w3 ⟨rfl, hk3⟩
    have HK3 := Lib.hid (HK2.out.trans hk3)
    clear hk3
    go_wp2_with fail
    refine (C4.out _ _ (HU.out.keptNo HK3.out)).mono ?_
    rintro e w4 ⟨rfl, hk4⟩
    have HK4 := Lib.hid (HK3.out.trans hk4)
    clear hk4
    have e1 := conv_of (BytesV.nil w4)
    go_wp2_with fail
    refine (C5.out _ HK4.out).mono ?_
    rintro e w5 ⟨rfl, hk5⟩
    clear e1
    go_wp2_with fail
    go_ret
    exact ⟨rfl, HK4.out.trans hk5⟩
  | ok x =>
    obtain ⟨v1, rfl, ho1⟩ := he1
    obtain ⟨ap3, cap3, rfl, _⟩ := ho1.bytes.parts
    have HO1 := Lib.hid ho1
    clear ho1
    go_wp2_with fail
    refine (C2.out _).mono ?_
    rintro e w2 ⟨hk2, v2, rfl, ho2⟩
    obtain ⟨ap4, cap4, rfl, _⟩ := ho2.bytes.parts
    have HO2 := Lib.hid ho2
    have HO1b := Lib.hid (HO1.out.kept hk2)
    have HK2 := Lib.hid (HK1.out.trans hk2)
    clear hk2 ho2
    go_wp2_with fail
    refine (C3.out _ _ (HU.out.keptNo HK2.out)).mono ?_
    rintro e w3 ⟨rfl, hk3⟩
    have HO1c := Lib.hid (HO1b.out.kept hk3)
    have HO2c := Lib.hid (HO2.out.kept hk3)
    have HK3 := Lib.hid (HK2.out.trans hk3)
    clear hk3
    go_wp2_with fail
    refine (C4.out _ _ (HU.out.keptNo HK3.out)).mono ?_
    rintro e w4 ⟨rfl, hk4⟩
    have hb1 := (HO1c.out.kept hk4).bytes
    have hb2 := (HO2c.out.kept hk4).bytes
    have HK4 := Lib.hid (HK3.out.trans hk4)
    clear hk4
    have e1 := conv_of hb1
    have e2 := conv_of hb2
    generalize (⟨x.toArray⟩ : ByteArray) = X at *
    clear hb1 hb2 HO1 HO1b HO1c HO2 HO2c C1 C2
    generalize x.length = m at *
    go_wp2_with fail
    refine (C5.out _ HK4.out).mono ?_
    rintro e w5 ⟨rfl, hk5⟩
    clear e1 e2
    go_wp2_with fail
    go_ret
    exact ⟨rfl, HK4.out.trans hk5⟩
end Go.Proofs.YtdinkdmkbfbjbaaDoor
namespace Go.Proofs.YtdinkdmkbfbjbaaDoor
open Go.RowKit
attribute [local go_sem] fold_part fold_some fold_some' partAt_zero

theorem textD_good {d : Deed} (h : badT d = false) : textD d = (lineD d, 0) := by
  unfold badT at h
  have h2 : (textD d).2 = 0 := by simpa using h
  unfold textD at h2 ⊢
  split
  · rename_i hc; rw [if_pos hc] at h2; cases h2
  · rename_i hc
    rw [if_neg hc] at h2
    split
    · rfl
    · rename_i hb; rw [if_neg hb] at h2; cases h2
theorem textD_bad {d : Deed} (h : badT d = true) : (textD d).2 = 251 := by
  rcases textD_code d with h2 | h2
  · unfold badT at h; rw [h2] at h; simp at h
  · exact h2

set_option maxRecDepth 100000 in
set_option maxHeartbeats 3200000 in
theorem rprint (c : Conf) (hc : c.Fits) (v : Value) (ps : List (Deed × Value)) (w : World) (h : DeedsV w v ps) (hb : BsV w ps) (hf : FitsL ps) (hlen : ps.length ≤ 30) :
    Calls Tryd.prog 22 #[confV c, v] w fun e w' => e = .returned (.tuple #[.string ⟨(printD c (ps.map (·.1))).1.toArray⟩, .int .i64 (printD c (ps.map (·.1))).2]) ∧ Kept NoBlock w w' := by
  have hDV := h
  obtain ⟨ap, cap, rfl, hH, hcap, _⟩ := h
  have hhd := fun W => rhead c hc W
  have htx := fun p (hp : p ∈ ps) v W (hv : DeedV W v p.1) => rtext v p.1 W hv (hf p hp)
  have hll := fun p (hp : p ∈ ps) => lineD_len (hf p hp)
  have hal := fun i => linesA_len ((ps.take i).map (·.1)) (fun d hd => by obtain ⟨p, hp, rfl⟩ := List.mem_map.1 hd; exact hf p (List.mem_of_mem_take hp))
  have hhl := headC_len hc
  generalize hT : printD c (ps.map (·.1)) = T
  unfold printD at hT
  rw [← any_fst] at hT
  have HHD := Lib.hid hhd
  have HTX := Lib.hid htx
  have HLL := Lib.hid hll
  have HAL := Lib.hid hal
  have HHL := Lib.hid hhl
  have HT := Lib.hid hT
  have HDV := Lib.hid hDV
  have HB := Lib.hid hb
  obtain ⟨n, hN⟩ : ∃ n, n = ps.length := ⟨_, rfl⟩
  have hn : n ≤ 30 := by omega
  have hnI : ¬ ((1048576 : Int) < (n : Int)) := by omega
  rw [← hN] at HDV hcap ⊢
  have HN := Lib.hid hN
  clear hH hhd htx hll hal hhl hT hDV hb hN hlen hf hc
  generalize hH' : headC c = HC at *
  clear hH'
  have HK1 := Lib.hid (Kept.allocd w (.cells #[.int .i64 c.c0, .int .i64 c.c1, .int .i64 c.c2, .int .i64 c.c3, .int .i64 c.c4] 52))
  have HG1 := Lib.hid (heap_alloc_new w (.cells #[.int .i64 c.c0, .int .i64 c.c1, .int .i64 c.c2, .int .i64 c.c3, .int .i64 c.c4] 52))
  unfold confV at HHD ⊢
  obtain ⟨S, hS⟩ : ∃ S : ByteArray, S = ⟨HC.toArray⟩ := ⟨_, rfl⟩
  have hSz : S.size ≤ 200 := by rw [str_size hS]; exact HHL.out
  have HS := Lib.hid hS
  rw [← hS] at HHD
  clear hS
  go_enter Tryd.func22, Tryd.ntmps22
  go_wp2_with fail
  generalize w.alloc (.cells #[.int .i64 c.c0, .int .i64 c.c1, .int .i64 c.c2, .int .i64 c.c3, .int .i64 c.c4] 52) = W1 at *
  refine (HHD.out _).mono ?_
  rintro e w2 ⟨rfl, hk⟩
  have HK2 := Lib.hid (HK1.out.trans hk)
  clear hk HG1 HK1
  have hcv := Lib.run_convert_string_bytes (P := Tryd.prog) w2 9 22 5 (S ++ ⟨#[10]⟩) Tryd.underlying9 Tryd.underlying22 Tryd.underlying5
  have hse : S ++ ⟨#[10]⟩ = (⟨(HC ++ [10]).toArray⟩ : ByteArray) := by rw [HS.out]; exact str_app HC [10]
  have hsl : (S ++ ⟨#[10]⟩ : ByteArray).size = (HC ++ [10]).length := by rw [hse]; rfl
  have hhl2 : (HC ++ [10]).length ≤ 201 := by have := HHL.out; rw [List.length_append, List.length_singleton]; omega
  have hown := bytesWorld_own w2 5 (S ++ ⟨#[10]⟩) (by rw [hsl]; unfold maxLen; omega)
  have hkb := bytesWorld_kept w2 5 (S ++ ⟨#[10]⟩)
  generalize hW : Lib.bytesWorld w2 5 (S ++ ⟨#[10]⟩) = W3 at *
  rw [hsl] at hown hcv
  have hown2 : OwnT W3 w.heap.size (.slice (some ⟨w2.heap.size, 0, none⟩) (HC ++ [10]).length (grownCap w2 (HC ++ [10]).length 0 5)) (HC ++ [10]) := by
    have := hown.lower HK2.out.size
    rwa [show (S ++ ⟨#[10]⟩ : ByteArray).data.toList = HC ++ [10] by rw [hse]] at this
  have HO3 := Lib.hid hown2
  have HK3 := Lib.hid (HK2.out.trans hkb)
  clear hown hown2 hkb hW hsl hse
  go_wp2_with fail
  clear hcv
  go_loopw [6, 7, 8] (fun vb vl vi wr => ∃ k : Nat, k ≤ n ∧ vi = .int .i64 k ∧ vl = .bool false ∧ OwnT wr w.heap.size vb ((HC ++ [10]) ++ linesA ((ps.take k).map (·.1))) ∧ ((ps.take k).any fun p => badT p.1) = false ∧ Kept NoBlock w wr) (fun _ _ vi _ => n - (intOf vi).toNat)
  case atStart => exact ⟨0, Nat.zero_le _, rfl, rfl, by simpa [linesA] using HO3.out, rfl, HK3.out⟩
  case round =>
    obtain ⟨k, hk, rfl, rfl, hown, hno, hkk⟩ := hrel
    have hlk : (linesA ((ps.take k).map (·.1))).length ≤ 1000000 := by
      have := HAL.out k
      have h2 : ((ps.take k).map (·.1)).length ≤ 30 := by rw [List.length_map, List.length_take]; omega
      omega
    obtain ⟨B, hB⟩ : ∃ B, B = (HC ++ [10]) ++ linesA ((ps.take k).map (·.1)) := ⟨_, rfl⟩
    rw [← hB] at hown
    have hBl : B.length ≤ 1000300 := by rw [hB]; simp only [List.length_append] at hhl2 ⊢; omega
    obtain ⟨bap, bcap, rfl, _⟩ := hown.bytes.parts
    have HBB := Lib.hid hB
    have HO := Lib.hid hown
    have HK := Lib.hid hkk
    have HNO := Lib.hid hno
    have hsz := hkk.size
    clear hown hno hkk hlk hB HO3 HK3
    by_cases hlt : k < n
    · have hltI : (k : Int) < (n : Int) := by omega
      have hil : k < ps.length := by have := HN.out; omega
      obtain ⟨p, hp⟩ : ∃ p, ps[k]? = some p := ⟨ps[k], List.getElem?_eq_getElem hil⟩
      have hpm := List.mem_of_getElem? hp
      obtain ⟨ad, rfl, a0, a1, a2, a3, a4⟩ := (HDV.out.kept HK.out).at hp
      have hbv := (HB.out p hpm).keptNo HK.out
      have htk : B ++ (lineD p.1 ++ [10]) = (HC ++ [10]) ++ linesA ((ps.take (k + 1)).map (·.1)) := by rw [HBB.out, List.take_add_one, hp, List.map_append]; simp [linesA_snoc]
      have htb : ((ps.take (k + 1)).any fun p => badT p.1) = badT p.1 := by rw [List.take_add_one, hp, List.any_append, HNO.out]; simp
      have hall : badT p.1 = true → (ps.any fun p => badT p.1) = true := fun h => by
        rw [List.any_eq_true]; exact ⟨p, hpm, h⟩
      have htext := HTX.out p hpm
      have hll := HLL.out p hpm
      obtain ⟨d, bv⟩ := p
      simp only at a0 a1 a2 a3 a4 hbv htk htb hall htext hll
      obtain ⟨bp, bc, rfl, _⟩ := hbv.parts
      have HBV := Lib.hid hbv
      cases hbd : badT d with
      | true =>
        have h2 := textD_bad hbd
        have hTT : T = ([], 251) := by rw [← HT.out, if_pos (hall hbd)]
        have HTT := Lib.hid hTT
        rw [h2] at htext
        generalize (⟨(textD d).1.toArray⟩ : ByteArray) = X at *
        have HTE := Lib.hid htext
        clear htext hll htk htb hall hbd h2 hTT hp hpm hbv hil
        go_wp2_with fail
        refine (HTE.out _ _ ⟨_, rfl, HBV.out⟩).mono ?_
        rintro e w4 ⟨rfl, hk4⟩
        have HK4 := Lib.hid (HK.out.trans hk4)
        clear hk4 a0 a1 a2 a3 a4
        go_wp2_with fail
        go_ret2
        exact ⟨by rw [HTT.out]; rfl, HK4.out⟩
      | false =>
        rw [textD_good hbd] at htext
        simp only at htext
        rw [hbd] at htb
        generalize lineD d = L at *
        obtain ⟨A, hA⟩ : ∃ A : ByteArray, A = ⟨L.toArray⟩ := ⟨_, rfl⟩
        have hAz : A.size ≤ 32200 := by rw [str_size hA]; exact hll
        rw [← hA] at htext
        have happ : A ++ ⟨#[10]⟩ = (⟨(L ++ [10]).toArray⟩ : ByteArray) := by rw [hA]; exact str_app L [10]
        have hl10 : (L ++ [10]).length ≤ 32201 := by rw [List.length_append, List.length_singleton]; omega
        have HTE := Lib.hid htext
        have HAP := Lib.hid happ
        have HTK := Lib.hid htk
        have HTB := Lib.hid htb
        obtain ⟨mm, hmm⟩ : ∃ mm : Int, (B.length : Int) + (A.size : Int) + 1 = mm := ⟨_, rfl⟩
        have hlong : ¬ ((67108864 : Int) < mm) := by omega
        have hlongd : decide ((67108864 : Int) < mm) = false := decide_eq_false hlong
        have hm0 : -9223372036854775808 ≤ mm := by omega
        have hm1 : mm ≤ 9223372036854775807 := by omega
        clear htext hll htk htb hall hbd hp hpm hbv hil hA happ
        go_wp2_with fail
        refine (HTE.out _ _ ⟨_, rfl, HBV.out⟩).mono ?_
        rintro e w4 ⟨rfl, hk4⟩
        have HK4 := Lib.hid (HK.out.trans hk4)
        have HO4 := Lib.hid (HO.out.kept hk4)
        clear hk4 a0 a1 a2 a3 a4
        have hsz4 := HK4.out.size
        generalize hBn : B.length = bn at *
        have HBN := Lib.hid hBn
        clear hBn
        go_wp2_with (at_builtin; refine wpList_appT rfl _ _ rfl w.heap.size _ B rfl (by exact HO4.out) (L ++ [10]) _ HAP.out rfl (by have := HBN.out; omega) hsz4 ?_; intro v3 w3 hown3 hg3; refine Hid.out ?_)
        have HO5 := Lib.hid hown3
        have HK5 := Lib.hid (Kept.app HK4.out HO4.out (Nat.le_refl _) hg3)
        clear hown3 hg3
        refine Lib.hid ?_
        go_wp2
        go_roundw
        case rel => exact ⟨k + 1, by omega, by go_num, rfl, by rw [← HTK.out]; exact HO5.out, HTB.out, HK5.out⟩
        case measure => simp [intOf]; omega
    · obtain rfl : k = n := by omega
      have htt : ps.take k = ps := List.take_of_length_le (by have := HN.out; omega)
      have hno := HNO.out
      rw [htt] at hno
      have hTT : T = (B, 0) := by rw [← HT.out, if_neg (by rw [hno]; decide), HBB.out, htt]
      have HTT := Lib.hid hTT
      clear hTT hno htt
      have e1 := conv_of HO.out.bytes
      generalize B.length = bn at *
      obtain ⟨X, hX⟩ : ∃ X : ByteArray, X = ⟨B.toArray⟩ := ⟨_, rfl⟩
      rw [← hX] at e1
      have HX := Lib.hid hX
      clear hX
      go_wp2_with fail
      go_ret2
      exact ⟨by rw [HTT.out]; exact congrArg (fun s => Ending.returned (.tuple #[.string s, .int .i64 0])) HX.out, HK.out⟩
end Go.Proofs.YtdinkdmkbfbjbaaDoor
namespace Go.Proofs.YtdinkdmkbfbjbaaDoor
open Go.RowKit
attribute [local go_sem] fold_part fold_some fold_some' partAt_zero

/-- A deed with its bytes cut. -/
def Deed.cut (d : Deed) : Deed := ⟨d.kind, d.a, d.n, d.draw, d.b.take 2000⟩
/-- The ranges of a deed's numbers. -/
structure Deed.Nums (d : Deed) : Prop where
  kind : -9223372036854775808 ≤ d.kind ∧ d.kind ≤ 9223372036854775807
  a : -9223372036854775808 ≤ d.a ∧ d.a ≤ 9223372036854775807
  n : -9223372036854775808 ≤ d.n ∧ d.n ≤ 9223372036854775807
  draw : d.draw < 18446744073709551616
theorem Deed.Nums.cut {d : Deed} (h : d.Nums) : d.cut.Fits := ⟨h.kind, h.a, h.n, h.draw, by unfold Deed.cut; simp only [List.length_take]; omega⟩

theorem take_len (l : Bs) (n : Nat) : l.take (l.take n).length = l.take n := by
  rw [List.length_take]
  rcases Nat.le_total n l.length with h | h
  · rw [Nat.min_eq_left h]
  · rw [Nat.min_eq_right h, List.take_length, List.take_of_length_le h]

theorem blk5f {w : World} {g : Nat} {a b c d e : Value} {T : TypeId} (h : w.heap[g]? = some (.cells #[a, b, c, d, e] T (0, 0))) (i : Nat) : w.frozen? ⟨g, i, none⟩ = false := frozenB h i

def parsedD (R : Option Deed) : Deed := match R with | some d => d | none => ⟨0, 0, 0, 0, []⟩
def parsedC (R : Option Deed) : Int := match R with | some _ => 0 | none => 251
theorem ParseEnd.told {R : Option Deed} {w w' : World} {e : Ending} (h : ParseEnd R w e w') : Kept NoBlock w w' ∧ ∃ k a n u bv, e = .returned (.tuple #[.agg #[.int .i64 k, .int .i64 a, .int .i64 n, .int .u64 u, bv], .int .i64 (parsedC R)]) ∧ DeedV w' (.agg #[.int .i64 k, .int .i64 a, .int .i64 n, .int .u64 u, bv]) (parsedD R) := by
  refine ⟨h.1, ?_⟩
  cases R with
  | none => obtain ⟨_, v, rfl, h⟩ := h; obtain ⟨bv, rfl, hb⟩ := h; exact ⟨_, _, _, _, _, rfl, _, rfl, hb⟩
  | some d => obtain ⟨_, v, rfl, h⟩ := h; obtain ⟨bv, rfl, hb⟩ := h; exact ⟨_, _, _, _, _, rfl, _, rfl, hb⟩

set_option maxRecDepth 100000 in
set_option maxHeartbeats 3200000 in
theorem law_lines (v1 v2 : Value) (D E : Deed) (l0 : Bs) (w : World) (hV : Vs w) (hM : Mx w) (h1 : DeedV w v1 D) (h2 : DeedV w v2 E) (hD : D.Nums) (hE : E.Nums) :
    Calls Tryd.prog 4 #[v1, v2, .string ⟨l0.toArray⟩] w fun e w' => e = .returned (.bool true) ∧ Kept NoBlock w w' := by
  have hDF := hD.cut
  have hEF := hE.cut
  have ct := fun W => (lcutT l0 W).mono (R' := fun e w' => e = .returned (.string ⟨(l0.take 2000).toArray⟩) ∧ w' = W) (fun _ _ h => ⟨h.1, h.2.symm⟩)
  generalize hl : l0.take 2000 = l at *
  have hll : l.length ≤ 2000 := by rw [← hl, List.length_take]; omega
  have cp1 := fun W (hk : Kept NoBlock w W) => pparse l (by omega) W (hV.below hk.toB) (hM.kept hk)
  have cp2 := fun W (hk : Kept NoBlock w W) => rparse l (by omega) W (hV.below hk.toB)
  have cal := fun W (hk : Kept NoBlock w W) => lalive W (hV.below hk.toB) (hM.kept hk)
  have ct1 := fun v W (hk : Kept NoBlock w W) (h : DeedV W v D.cut) => ptext v _ W (hV.below hk.toB) h hDF
  have ct2 := fun v W (h : DeedV W v D.cut) => rtext v _ W h hDF
  generalize (⟨l0.toArray⟩ : ByteArray) = S0 at *
  generalize (⟨l.toArray⟩ : ByteArray) = S at *
  generalize parseP l = R at *
  obtain ⟨u1, rfl, hb1⟩ := h1
  obtain ⟨u2, rfl, hb2⟩ := h2
  obtain ⟨ap1, cap1, rfl, hc1, _⟩ := hb1.parts
  obtain ⟨ap2, cap2, rfl, hc2, _⟩ := hb2.parts
  have cb1 := fun W => lcutV ap1 cap1 D.b W hc1
  have cb2 := fun W => lcutV ap2 cap2 E.b W hc2
  have hx1 : BytesV w (.slice ap1 (D.b.take 2000).length cap1) (D.b.take 2000) := by have := hb1.front (D.b.take 2000).length (by rw [List.length_take]; omega); rwa [take_len] at this
  have hx2 : BytesV w (.slice ap2 (E.b.take 2000).length cap2) (E.b.take 2000) := by have := hb2.front (E.b.take 2000).length (by rw [List.length_take]; omega); rwa [take_len] at this
  have hln1 : (D.b.take 2000).length ≤ cap1 := by rw [List.length_take]; omega
  have hln2 : (E.b.take 2000).length ≤ cap2 := by rw [List.length_take]; omega
  obtain ⟨k1, a1, n1, r1, b1⟩ := D
  obtain ⟨k2, a2, n2, r2, b2⟩ := E
  unfold Deed.cut at ct1 ct2
  simp only at hx1 hx2 cb1 cb2 ct1 ct2 hln1 hln2 ⊢
  have csd := fun v u W (h : DeedV W v ⟨k1, a1, n1, r1, b1.take 2000⟩) (h' : DeedV W u ⟨k2, a2, n2, r2, b2.take 2000⟩) => psame v u _ _ W h h'
  have crd := fun v u W (h : DeedV W v ⟨k1, a1, n1, r1, b1.take 2000⟩) (h' : DeedV W u ⟨k2, a2, n2, r2, b2.take 2000⟩) => rsame v u _ _ W h h'
  have csr := fun v W (h : DeedV W v ⟨k1, a1, n1, r1, b1.take 2000⟩) => psame v v _ _ W h h
  generalize textD ⟨k1, a1, n1, r1, b1.take 2000⟩ = T at *
  have hself : ∀ d : Deed, sameD d d = true := fun d => by simp [sameD]
  rw [hself] at csr
  generalize sameD ⟨k1, a1, n1, r1, b1.take 2000⟩ ⟨k2, a2, n2, r2, b2.take 2000⟩ = SD at *
  clear hb1 hb2 hc1 hc2 hD hE hDF hEF hV hM hl hll
  generalize b1.length = m1 at *
  generalize b2.length = m2 at *
  generalize b1.take 2000 = e1 at *
  generalize b2.take 2000 = e2 at *
  have CT := Lib.hid ct
  have CP1 := Lib.hid cp1
  have CP2 := Lib.hid cp2
  have CAL := Lib.hid cal
  have CT1 := Lib.hid ct1
  have CT2 := Lib.hid ct2
  have CB1 := Lib.hid cb1
  have CB2 := Lib.hid cb2
  have HX1 := Lib.hid hx1
  have HX2 := Lib.hid hx2
  have CSD := Lib.hid csd
  have CRD := Lib.hid crd
  have CSR := Lib.hid csr
  have HSELF := Lib.hid hself
  clear ct cp1 cp2 cal ct1 ct2 cb1 cb2 hx1 hx2 csd crd csr hself
  have hk2 := (Kept.allocd w (.cells #[.int .i64 k1, .int .i64 a1, .int .i64 n1, .int .u64 r1, .slice ap1 m1 cap1] 36)).alloc (.cells #[.int .i64 k2, .int .i64 a2, .int .i64 n2, .int .u64 r2, .slice ap2 m2 cap2] 36)
  have hg1 := (Kept.allocd (w.alloc (.cells #[.int .i64 k1, .int .i64 a1, .int .i64 n1, .int .u64 r1, .slice ap1 m1 cap1] 36)) (.cells #[.int .i64 k2, .int .i64 a2, .int .i64 n2, .int .u64 r2, .slice ap2 m2 cap2] 36)).heap (heap_alloc_new w _) (fun h => h)
  have hg2 := heap_alloc_new (w.alloc (.cells #[.int .i64 k1, .int .i64 a1, .int .i64 n1, .int .u64 r1, .slice ap1 m1 cap1] 36)) (.cells #[.int .i64 k2, .int .i64 a2, .int .i64 n2, .int .u64 r2, .slice ap2 m2 cap2] 36)
  rw [World.size_alloc] at hg2
  have HK2 := Lib.hid hk2
  have HG1 := Lib.hid hg1
  have HG2 := Lib.hid hg2
  clear hk2 hg1 hg2
  go_enter Tryd.func4, Tryd.ntmps4
  go_wp2_with fail
  generalize (w.alloc (.cells #[.int .i64 k1, .int .i64 a1, .int .i64 n1, .int .u64 r1, .slice ap1 m1 cap1] 36)).alloc (.cells #[.int .i64 k2, .int .i64 a2, .int .i64 n2, .int .u64 r2, .slice ap2 m2 cap2] 36) = W2 at *
  obtain ⟨c0, c1, c2, c3, c4⟩ := blk5 HG1.out
  obtain ⟨d0, d1, d2, d3, d4⟩ := blk5 HG2.out
  have cf := fun i => frozenB HG1.out i
  have df := fun i => frozenB HG2.out i
  refine wp_plan 0 [1, 2, 3, 4, 5, 6, 7, 8] 9 [([10], 11)] [12] (by kernel_rfl) (by kernel_rfl) ?_
  simp only [wpPlan, pick, List.filterMap_cons, List.filterMap_nil, List.getElem?_cons_succ, List.getElem?_cons_zero]
  repeat (quiet_step ((first | (go_at_call 7; first | exact Calls.quiet_of_same (CB1.out _) | exact Calls.quiet_of_same (CB2.out _)) | (go_at_call 8; exact Calls.quiet_of_same (CT.out _)))))
  refine wpQuiet_nil ?_
  rintro _ ⟨q1, rfl⟩
  go_wp2_with fail
  refine Halt.mk ?_
  repeat (quiet_step (fail))
  refine wpQuiet_nil ?_
  rintro _ ⟨q2, rfl⟩
  go_wp2_with fail
  refine Halt.mk ?_
  repeat (quiet_step (fail))
  refine wpQuiet_nil ?_
  rintro _ ⟨q3, rfl⟩
  go_wp2_with fail
  have hg1 : (((((W2.drewN q1).setCell ⟨w.heap.size, 4, none⟩ (.slice ap1 e1.length cap1)).drewN q2).setCell ⟨w.heap.size + 1, 4, none⟩ (.slice ap2 e2.length cap2)).drewN q3).heap[w.heap.size]? = some (.cells #[.int .i64 k1, .int .i64 a1, .int .i64 n1, .int .u64 r1, .slice ap1 e1.length cap1] 36 (0, 0)) := by
    have := heap_set_ne (w := ((W2.drewN q1).setCell ⟨w.heap.size, 4, none⟩ (.slice ap1 e1.length cap1)).drewN q2) (p := ⟨w.heap.size + 1, 4, none⟩) (v := .slice ap2 e2.length cap2) (heap_setCell_same (w := W2.drewN q1) HG1.out 4 (.slice ap1 e1.length cap1)) (by simp)
    simpa using this
  have hg2 : (((((W2.drewN q1).setCell ⟨w.heap.size, 4, none⟩ (.slice ap1 e1.length cap1)).drewN q2).setCell ⟨w.heap.size + 1, 4, none⟩ (.slice ap2 e2.length cap2)).drewN q3).heap[w.heap.size + 1]? = some (.cells #[.int .i64 k2, .int .i64 a2, .int .i64 n2, .int .u64 r2, .slice ap2 e2.length cap2] 36 (0, 0)) := by
    have := heap_setCell_same (w := ((W2.drewN q1).setCell ⟨w.heap.size, 4, none⟩ (.slice ap1 e1.length cap1)).drewN q2) (heap_set_ne (w := W2.drewN q1) (p := ⟨w.heap.size, 4, none⟩) (v := .slice ap1 e1.length cap1) HG2.out (by simp)) 4 (.slice ap2 e2.length cap2)
    simpa using this
  have hk3 : Kept NoBlock w (((((W2.drewN q1).setCell ⟨w.heap.size, 4, none⟩ (.slice ap1 e1.length cap1)).drewN q2).setCell ⟨w.heap.size + 1, 4, none⟩ (.slice ap2 e2.length cap2)).drewN q3) := ((((HK2.out.drewN q1).own (Nat.le_refl _) 4 (.slice ap1 e1.length cap1)).drewN q2).own (Nat.le_succ _) 4 (.slice ap2 e2.length cap2)).drewN q3
  clear c0 c1 c2 c3 c4 d0 d1 d2 d3 d4 cf df
  generalize (((((W2.drewN q1).setCell ⟨w.heap.size, 4, none⟩ (.slice ap1 e1.length cap1)).drewN q2).setCell ⟨w.heap.size + 1, 4, none⟩ (.slice ap2 e2.length cap2)).drewN q3) = W3 at *
  have HK3 := Lib.hid hk3
  have HG1b := Lib.hid hg1
  have HG2b := Lib.hid hg2
  have hvd : DeedV W3 (.agg #[.int .i64 k1, .int .i64 a1, .int .i64 n1, .int .u64 r1, .slice ap1 e1.length cap1]) ⟨k1, a1, n1, r1, e1⟩ := ⟨_, rfl, HX1.out.keptNo hk3⟩
  have hve : DeedV W3 (.agg #[.int .i64 k2, .int .i64 a2, .int .i64 n2, .int .u64 r2, .slice ap2 e2.length cap2]) ⟨k2, a2, n2, r2, e2⟩ := ⟨_, rfl, HX2.out.keptNo hk3⟩
  have HVD := Lib.hid hvd
  have HVE := Lib.hid hve
  generalize e1.length = m3 at *
  generalize e2.length = m4 at *
  clear hk3 hg1 hg2 hvd hve HK2 HG1 HG2 HX1 HX2 CB1 CB2 CT
  refine (CT1.out _ _ HK3.out HVD.out).mono ?_
  rintro e w4 ⟨rfl, hk4⟩
  have HK4 := Lib.hid hk4
  obtain ⟨c0, c1, c2, c3, c4⟩ := blk5 (hk4.heap HG1b.out (fun h => h))
  clear hk4
  go_wp2_with fail
  refine (CT2.out _ _ (HVD.out.kept HK4.out)).mono ?_
  rintro e w5 ⟨rfl, hk5⟩
  have HK5 := Lib.hid (HK4.out.trans hk5)
  clear hk5 c0 c1 c2 c3 c4
  go_wp2_with fail
  refine (CP1.out _ (HK3.out.trans HK5.out)).mono ?_
  rintro e w6 h6
  obtain ⟨hk6, x0, x1, x2, x3, x4, rfl, hX⟩ := h6.told
  have HK6 := Lib.hid (HK5.out.trans hk6)
  obtain ⟨xap, xcap, rfl, _⟩ : ∃ ap cap, x4 = .slice ap (parsedD R).b.length cap ∧ True := by obtain ⟨bv, e, hb⟩ := hX; cases e; obtain ⟨ap, cap, rfl, _⟩ := hb.parts; exact ⟨_, _, rfl, trivial⟩
  have HX := Lib.hid hX
  clear hk6 h6 hX
  have HK7 := Lib.hid (HK6.out.alloc (.cells #[.int .i64 x0, .int .i64 x1, .int .i64 x2, .int .u64 x3, .slice xap (parsedD R).b.length xcap] 36))
  have HG7 := Lib.hid (heap_alloc_new w6 (.cells #[.int .i64 x0, .int .i64 x1, .int .i64 x2, .int .u64 x3, .slice xap (parsedD R).b.length xcap] 36))
  have HX7 := Lib.hid (HX.out.kept (Kept.allocd w6 (.cells #[.int .i64 x0, .int .i64 x1, .int .i64 x2, .int .u64 x3, .slice xap (parsedD R).b.length xcap] 36)))
  go_wp2_with fail
  generalize w6.alloc (.cells #[.int .i64 x0, .int .i64 x1, .int .i64 x2, .int .u64 x3, .slice xap (parsedD R).b.length xcap] 36) = W7 at *
  generalize w6.heap.size = g1 at *
  refine (CP2.out _ (HK3.out.trans HK7.out)).mono ?_
  rintro e w8 h8
  obtain ⟨hk8, y0, y1, y2, y3, y4, rfl, hY⟩ := h8.told
  have HK8 := Lib.hid (HK7.out.trans hk8)
  have HG8 := Lib.hid (hk8.heap HG7.out (fun h => h))
  have HX8 := Lib.hid (HX7.out.kept hk8)
  obtain ⟨yap, ycap, rfl, _⟩ : ∃ ap cap, y4 = .slice ap (parsedD R).b.length cap ∧ True := by obtain ⟨bv, e, hb⟩ := hY; cases e; obtain ⟨ap, cap, rfl, _⟩ := hb.parts; exact ⟨_, _, rfl, trivial⟩
  have HY := Lib.hid hY
  clear hk8 h8 hY HG7 HX7 HX HK7
  have HK9 := Lib.hid (HK8.out.alloc (.cells #[.int .i64 y0, .int .i64 y1, .int .i64 y2, .int .u64 y3, .slice yap (parsedD R).b.length ycap] 36))
  have HG9 := Lib.hid (heap_alloc_new w8 (.cells #[.int .i64 y0, .int .i64 y1, .int .i64 y2, .int .u64 y3, .slice yap (parsedD R).b.length ycap] 36))
  have HY9 := Lib.hid (HY.out.kept (Kept.allocd w8 (.cells #[.int .i64 y0, .int .i64 y1, .int .i64 y2, .int .u64 y3, .slice yap (parsedD R).b.length ycap] 36)))
  have HX9 := Lib.hid (HX8.out.kept (Kept.allocd w8 (.cells #[.int .i64 y0, .int .i64 y1, .int .i64 y2, .int .u64 y3, .slice yap (parsedD R).b.length ycap] 36)))
  have HF9 := Lib.hid ((Kept.allocd w8 (.cells #[.int .i64 y0, .int .i64 y1, .int .i64 y2, .int .u64 y3, .slice yap (parsedD R).b.length ycap] 36)).heap HG8.out (fun h => h))
  go_wp2_with fail
  generalize w8.alloc (.cells #[.int .i64 y0, .int .i64 y1, .int .i64 y2, .int .u64 y3, .slice yap (parsedD R).b.length ycap] 36) = W0 at *
  generalize w8.heap.size = g2 at *
  have csx := fun W (hk : Kept NoBlock W0 W) => (rsame _ _ _ _ W (HX9.out.kept hk) (HY9.out.kept hk))
  rw [HSELF.out] at csx
  have csd := fun W (hk : Kept NoBlock W0 W) => CSD.out _ _ W ((HVD.out.kept HK9.out).kept hk) ((HVE.out.kept HK9.out).kept hk)
  have crd := fun W (hk : Kept NoBlock W0 W) => CRD.out _ _ W ((HVD.out.kept HK9.out).kept hk) ((HVE.out.kept HK9.out).kept hk)
  have csr := fun W (hk : Kept NoBlock W0 W) => CSR.out _ W ((HVD.out.kept HK9.out).kept hk)
  have cal := fun W (hk : Kept NoBlock W0 W) => CAL.out W ((HK3.out.trans HK9.out).trans hk)
  have kg1 := fun W (hk : Kept NoBlock W0 W) => blk5 (hk.heap (HK9.out.heap HG1b.out (fun h => h)) (fun h => h))
  have kg2 := fun W (hk : Kept NoBlock W0 W) => blk5 (hk.heap (HK9.out.heap HG2b.out (fun h => h)) (fun h => h))
  have kx := fun W (hk : Kept NoBlock W0 W) => blk5 (hk.heap HF9.out (fun h => h))
  have ky := fun W (hk : Kept NoBlock W0 W) => blk5 (hk.heap HG9.out (fun h => h))
  generalize (parsedD R).b.length = m5 at *
  generalize parsedC R = co at *
  have HCSX := Lib.hid csx
  have HCSD := Lib.hid csd
  have HCRD := Lib.hid crd
  have HCSR := Lib.hid csr
  have HCAL := Lib.hid cal
  have KG1 := Lib.hid kg1
  have KG2 := Lib.hid kg2
  have KX := Lib.hid kx
  have KY := Lib.hid ky
  have HKW := Lib.hid (HK3.out.trans HK9.out)
  clear csx csd crd csr cal kg1 kg2 kx ky CSD CRD CSR CAL CP1 CP2 CT1 CT2 HX8 HX9 HY HY9 HF9 HG8 HG9 HVD HVE HG1b HG2b HK3 HK4 HK5 HK6 HK8 HK9
  refine wp_planC (fun W => Kept NoBlock W0 W) 36 [.seg [0, 1, 2, 3, 4, 5, 6, 7, 8, 9, 10] 11, .flt 12, .flt 13, .flt 14, .flt 15, .flt 16, .flt 17, .flt 18, .flt 22, .flt 23, .seg [19, 20] 21, .seg [] 24, .seg [25, 26, 27, 28, 29] 30, .seg [31, 32] 33] [34, 35] (by kernel_rfl) (by kernel_rfl) (fun _ _ _ dst _ h => by cases dst <;> exact h) (fun _ _ h => h.drewN _) (Kept.refl _ _) (fun q0 => ?_)
  simp only [wpPlanC, pick, List.filterMap_cons, List.filterMap_nil, List.getElem?_cons_succ, List.getElem?_cons_zero]
  obtain ⟨p0, p1, p2, p3, p4⟩ := KX.out W0 (Kept.refl _ _)
  obtain ⟨s0, s1, s2, s3, s4⟩ := KY.out W0 (Kept.refl _ _)
  repeat (quiet_step (fail))
  refine wpQuiet_nil ?_
  rintro _ ⟨q5, rfl⟩
  go_wp2_with fail
  refine (HCSX.out _ ((Kept.refl _ _).drewN _)).mono ?_
  rintro e w1 ⟨rfl, hk⟩
  have HK1 := Lib.hid (((Kept.refl NoBlock W0).drewN _).trans hk)
  clear hk p0 p1 p2 p3 p4 s0 s1 s2 s3 s4
  go_wp2_with fail
  refine Halt.mk ⟨.inr HK1.out, ?_⟩
  iterate 2 (refine wpFloat_ex rfl ?_; apply Exists.intro; refine ⟨fun w' hw' => ?_, ?_⟩; (go_simp; first | rfl | exact ⟨rfl, rfl⟩); simp only [Act.put, List.setIfInBounds_toArray, List.set_cons_succ, List.set_cons_zero])
  iterate 3 (apply Exists.intro; refine ⟨fun _ w' hw' => ?_, fun h => ?_, ?_⟩; (go_simp; first | rfl | exact ⟨rfl, rfl⟩); (simp [Region.wanted, yielded] at h); simp only [Act.put, List.setIfInBounds_toArray, List.set_cons_succ, List.set_cons_zero])
  iterate 2 (refine wpFloat_ex rfl ?_; apply Exists.intro; refine ⟨fun w' hw' => ?_, ?_⟩; (go_simp; first | rfl | exact ⟨rfl, rfl⟩); simp only [Act.put, List.setIfInBounds_toArray, List.set_cons_succ, List.set_cons_zero])
  iterate 2 (apply Exists.intro; refine ⟨fun _ w' hw' => ?_, fun h => ?_, ?_⟩; (obtain ⟨u0, u1, u2, u3, u4⟩ := KG1.out w' hw'; obtain ⟨v0, v1, v2, v3, v4⟩ := KG2.out w' hw'; go_simp; first | rfl | exact ⟨rfl, rfl⟩); (simp [Region.wanted, yielded] at h); simp only [Act.put, List.setIfInBounds_toArray, List.set_cons_succ, List.set_cons_zero])
  obtain ⟨p0, p1, p2, p3, p4⟩ := KG1.out _ HK1.out
  obtain ⟨s0, s1, s2, s3, s4⟩ := KG2.out _ HK1.out
  repeat (quiet_step (fail))
  refine wpQuiet_nil ?_
  rintro _ ⟨q6, rfl⟩
  go_wp2_with fail
  refine (HCSD.out _ (HK1.out.drewN _)).mono ?_
  rintro e w2 ⟨rfl, hk⟩
  have HK2 := Lib.hid ((HK1.out.drewN _).trans hk)
  clear hk p0 p1 p2 p3 p4 s0 s1 s2 s3 s4
  go_wp2_with fail
  refine Halt.mk ⟨.inr HK2.out, ?_⟩
  go_wp2_with fail
  refine (HCRD.out _ HK2.out).mono ?_
  rintro e w3 ⟨rfl, hk⟩
  have HK3 := Lib.hid (HK2.out.trans hk)
  clear hk
  go_wp2_with fail
  refine Halt.mk ⟨.inr HK3.out, ?_⟩
  obtain ⟨p0, p1, p2, p3, p4⟩ := KG1.out _ HK3.out
  repeat (quiet_step (fail))
  refine wpQuiet_nil ?_
  rintro _ ⟨q7, rfl⟩
  go_wp2_with fail
  refine (HCSR.out _ (HK3.out.drewN _)).mono ?_
  rintro e w4 ⟨rfl, hk⟩
  have HK4 := Lib.hid ((HK3.out.drewN _).trans hk)
  clear hk p0 p1 p2 p3 p4
  go_wp2_with fail
  refine Halt.mk ⟨.inr HK4.out, ?_⟩
  repeat (quiet_step (fail))
  refine wpQuiet_nil ?_
  rintro _ ⟨q8, rfl⟩
  go_wp2_with fail
  refine (HCAL.out _ (HK4.out.drewN _)).mono ?_
  rintro e w5 ⟨rfl, hk⟩
  have HK5 := Lib.hid ((HK4.out.drewN _).trans hk)
  clear hk
  go_wp2_with fail
  refine Halt.mk ⟨.inr HK5.out, ?_⟩
  repeat (quiet_step (fail))
  refine wpQuiet_nil ?_
  rintro _ ⟨q9, rfl⟩
  go_wp2_with fail
  go_ret
  exact ⟨rfl, HKW.out.trans (HK5.out.drewN _)⟩
end Go.Proofs.YtdinkdmkbfbjbaaDoor
namespace Go.Proofs.YtdinkdmkbfbjbaaDoor
open Go.RowKit
attribute [local go_sem] fold_part fold_some fold_some' partAt_zero

theorem cutP_bytes {w : World} {p : Deed × Value} (h : BytesV w p.2 p.1.b) : BytesV w (cutP p).2 (cutP p).1.b := by
  obtain ⟨d, v⟩ := p
  simp only at h
  obtain ⟨ap, cap, rfl, hc, _⟩ := h.parts
  show BytesV w (.slice ap (d.b.take 2000).length cap) (d.b.take 2000)
  have := BytesV.front h (d.b.take 2000).length (by rw [List.length_take]; omega)
  rwa [take_len] at this

set_option maxRecDepth 100000 in
set_option maxHeartbeats 1600000 in
theorem lfew (v : Value) (ps : List (Deed × Value)) (w : World) (h : DeedsV w v ps) (hb : BsV w ps) (hf : ∀ p ∈ ps, ∃ ap c, p.2 = .slice ap p.1.b.length c ∧ p.1.b.length ≤ c) (hlen : ps.length ≤ 9223372036854775807) :
    Calls Tryd.prog 20 #[v] w fun e w' => ∃ v', e = .returned v' ∧ OwnD w' w.heap.size v' ((ps.take 30).map cutP) ∧ Kept NoBlock w w' := by
  have hDV := h
  obtain ⟨ap, cap, rfl, hH, hcap, _⟩ := h
  have HDV := Lib.hid hDV
  have HF := Lib.hid hf
  have HB := Lib.hid hb
  have hn : (ps.length : Int) ≤ 9223372036854775807 := by omega
  obtain ⟨n, hN⟩ : ∃ n, n = ps.length := ⟨_, rfl⟩
  rw [← hN] at HDV hcap hn ⊢
  have HN := Lib.hid hN
  clear hDV hH hf hb hlen hN
  go_enter Tryd.func20, Tryd.ntmps20
  go_wp2
  go_loopw [3, 4] (fun vo vi wr => ∃ i : Nat, vi = .int .i64 i ∧ i ≤ n ∧ i ≤ 30 ∧ OwnD wr w.heap.size vo ((ps.take i).map cutP) ∧ Kept NoBlock w wr) (fun _ vi _ => 30 - (intOf vi).toNat)
  case atStart => exact ⟨0, rfl, Nat.zero_le _, Nat.zero_le _, OwnD.nil _ _, Kept.refl _ _⟩
  case round =>
    obtain ⟨i, rfl, hi, hi30, hown, hK⟩ := hrel
    obtain ⟨qs, hqs⟩ : ∃ qs, qs = (ps.take i).map cutP := ⟨_, rfl⟩
    rw [← hqs] at hown
    have hql : qs.length ≤ 30 := by rw [hqs, List.length_map, List.length_take]; omega
    obtain ⟨ap3, cap3, rfl, _⟩ := hown.form
    have HQS := Lib.hid hqs
    have HO := Lib.hid hown
    clear hqs
    have HK := Lib.hid hK
    have hsz := hK.size
    clear hown hK
    by_cases hlt : i < n
    · have hltI : (i : Int) < (n : Int) := by omega
      by_cases h30 : i < 30
      · have h30I : (i : Int) < 30 := by omega
        obtain ⟨p, hp⟩ : ∃ p, ps[i]? = some p := ⟨ps[i]'(by have := HN.out; omega), List.getElem?_eq_getElem _⟩
        obtain ⟨ad, rfl, a0, a1, a2, a3, a4⟩ := (HDV.out.kept HK.out).at hp
        obtain ⟨bp, bc, hbv, hbl⟩ := HF.out p (List.mem_of_getElem? hp)
        rw [hbv] at a4
        have cb := fun W => lcutV bp bc p.1.b W hbl
        have hcw : cutW p = .slice bp (p.1.b.take 2000).length bc := by unfold cutW; rw [hbv]
        have htk : (ps.take (i + 1)).map cutP = qs ++ [cutP p] := by rw [HQS.out, List.take_add_one, hp]; simp
        have HCB := Lib.hid cb
        have HCW := Lib.hid hcw
        have HTK := Lib.hid htk
        have hwl : w.heap.size ≤ wr.heap.size := hsz
        generalize (p.1.b.take 2000).length = m at *
        clear cb hcw htk hbv hbl hp
        go_wp2_with fail
        refine (HCB.out _).mono ?_
        rintro e w2 ⟨rfl, rfl⟩
        have hnw : ((wr.alloc (.cells #[.int .i64 p.1.kind, .int .i64 p.1.a, .int .i64 p.1.n, .int .u64 p.1.draw, .slice bp m bc] 36)).alloc (.cells #[.int .i64 p.1.kind, .int .i64 p.1.a, .int .i64 p.1.n, .int .u64 p.1.draw, .slice bp m bc] 36)).heap[wr.heap.size + 1]? = some (.cells #[.int .i64 (cutP p).1.kind, .int .i64 (cutP p).1.a, .int .i64 (cutP p).1.n, .int .u64 (cutP p).1.draw, (cutP p).2] 36 (0, 0)) := by
          have := heap_alloc_new (wr.alloc (.cells #[.int .i64 p.1.kind, .int .i64 p.1.a, .int .i64 p.1.n, .int .u64 p.1.draw, .slice bp m bc] 36)) (.cells #[.int .i64 p.1.kind, .int .i64 p.1.a, .int .i64 p.1.n, .int .u64 p.1.draw, .slice bp m bc] 36)
          rw [World.size_alloc] at this
          rw [this]
          show _ = some (Obj.cells #[.int .i64 p.1.kind, .int .i64 p.1.a, .int .i64 p.1.n, .int .u64 p.1.draw, cutW p] 36 (0, 0))
          rw [HCW.out]
        have HNW := Lib.hid hnw
        have hone : (cutP p).2.oneCell' = true := by show (cutW p).oneCell' = true; rw [HCW.out]; rfl
        have HONE := Lib.hid hone
        clear hnw hone
        go_wp2_with (at_builtin; refine wpList_appD rfl _ _ (by rfl) w.heap.size _ qs (by rfl) ((HO.out.alloc _).alloc _) (wr.heap.size + 1) (cutP p) (by rfl) HNW.out HONE.out (by omega) (by simp; omega) ?_; intro v3 w3 hown3 hg3; refine Hid.out ?_)
        have HK3 := Lib.hid (Kept.appD ((HK.out.alloc _).alloc _) ((World.ownsRow.alloc (World.ownsRow.alloc HO.out _) _) : OwnD _ _ _ qs) (Nat.le_refl _) hg3)
        have HO3 := Lib.hid hown3
        obtain ⟨ap5, cap5, rfl, _⟩ := hown3.form
        clear hown3 hg3
        refine Lib.hid ?_
        go_wp2
        go_roundw
        case rel => exact ⟨i + 1, by go_num, by omega, by omega, by rw [HTK.out]; exact HO3.out, HK3.out⟩
        case measure => simp [intOf]; omega
      · obtain rfl : i = 30 := by omega
        go_wp2
        go_ret
        exact ⟨_, rfl, by rw [← HQS.out]; exact HO.out, HK.out⟩
    · obtain rfl : i = n := by omega
      have hfin : (ps.take 30).map cutP = qs := by rw [HQS.out, List.take_of_length_le (by have := HN.out; omega), List.take_of_length_le (by have := HN.out; omega)]
      have HFIN := Lib.hid hfin
      clear hfin
      go_wp2
      go_ret
      exact ⟨_, rfl, by rw [HFIN.out]; exact HO.out, HK.out⟩
end Go.Proofs.YtdinkdmkbfbjbaaDoor
namespace Go.Proofs.YtdinkdmkbfbjbaaDoor
open Go.RowKit
attribute [local go_sem] fold_part fold_some fold_some' partAt_zero

/-- What came in: the deeds of a row, and their ranges. -/
def NumsL (ps : List (Deed × Value)) : Prop := ∀ p ∈ ps, p.1.Nums ∧ ∃ ap c, p.2 = .slice ap p.1.b.length c ∧ p.1.b.length ≤ c
/-- The deeds that are looked at. -/
def fewP (ps : List (Deed × Value)) : List (Deed × Value) := (ps.take 30).map cutP
theorem fewP_fits {ps : List (Deed × Value)} (h : NumsL ps) : FitsL (fewP ps) := by
  intro q hq
  obtain ⟨p, hp, rfl⟩ := List.mem_map.1 hq
  exact (h p (List.mem_of_mem_take hp)).1.cut
theorem fewP_bytes {w : World} {ps : List (Deed × Value)} (h : BsV w ps) : BsV w (fewP ps) := by
  intro q hq
  obtain ⟨p, hp, rfl⟩ := List.mem_map.1 hq
  exact cutP_bytes (h p (List.mem_of_mem_take hp))
theorem fewP_len (ps : List (Deed × Value)) : (fewP ps).length ≤ 30 := by unfold fewP; rw [List.length_map, List.length_take]; omega

set_option maxRecDepth 100000 in
set_option maxHeartbeats 1600000 in
theorem law_texts (c : Conf) (hc : c.Fits) (v : Value) (ps : List (Deed × Value)) (w : World) (hV : Vs w) (hM : Mx w) (h : DeedsV w v ps) (hb : BsV w ps) (hn : NumsL ps) (hlen : ps.length ≤ 9223372036854775807) :
    Calls Tryd.prog 5 #[confV c, v] w fun e w' => e = .returned (.bool true) ∧ Kept NoBlock w w' := by
  have cf := fun W (hk : Kept NoBlock w W) => lfew v ps W (h.kept hk) (hb.kept hk) (fun p hp => (hn p hp).2) hlen
  have cp := fun v' W (hk : Kept NoBlock w W) (h' : DeedsV W v' (fewP ps)) => pprint c hc v' (fewP ps) W (hV.below hk.toB) h' ((fewP_bytes hb).kept hk) (fewP_fits hn) (fewP_len ps)
  have cr := fun v' W (hk : Kept NoBlock w W) (h' : DeedsV W v' (fewP ps)) => rprint c hc v' (fewP ps) W h' ((fewP_bytes hb).kept hk) (fewP_fits hn) (fewP_len ps)
  have cal := fun W (hk : Kept NoBlock w W) => lalive W (hV.below hk.toB) (hM.kept hk)
  obtain ⟨ap, cap, rfl, _⟩ := h
  unfold fewP at cp cr
  generalize (ps.take 30).map cutP = qs at *
  generalize printD c (qs.map (·.1)) = T at *
  generalize ps.length = n at *
  generalize (⟨T.1.toArray⟩ : ByteArray) = S at *
  obtain ⟨T1, T2⟩ := T
  simp only at cp cr
  have CF := Lib.hid cf
  have CP := Lib.hid cp
  have CR := Lib.hid cr
  have CAL := Lib.hid cal
  clear cf cp cr cal hV hM hb hn hlen hc
  have HK1 := Lib.hid (Kept.allocd w (.cells #[.int .i64 c.c0, .int .i64 c.c1, .int .i64 c.c2, .int .i64 c.c3, .int .i64 c.c4] 52))
  have HG1 := Lib.hid (heap_alloc_new w (.cells #[.int .i64 c.c0, .int .i64 c.c1, .int .i64 c.c2, .int .i64 c.c3, .int .i64 c.c4] 52))
  unfold confV at CP CR ⊢
  go_enter Tryd.func5, Tryd.ntmps5
  go_wp2_with fail
  generalize w.alloc (.cells #[.int .i64 c.c0, .int .i64 c.c1, .int .i64 c.c2, .int .i64 c.c3, .int .i64 c.c4] 52) = W1 at *
  refine (CF.out _ HK1.out).mono ?_
  rintro e w2 ⟨v', rfl, ho, hk⟩
  obtain ⟨ap2, cap2, rfl, _⟩ := ho.form
  have HO := Lib.hid ho.deeds
  have HK2 := Lib.hid (HK1.out.trans hk)
  have HG2 := Lib.hid (hk.heap HG1.out (fun h => h))
  obtain ⟨c0, c1, c2, c3, c4⟩ := blk5 HG2.out
  clear ho hk
  go_wp2_with fail
  refine (CP.out _ _ HK2.out HO.out).mono ?_
  rintro e w3 ⟨rfl, hk⟩
  have HO3 := Lib.hid (HO.out.kept hk)
  have HK3 := Lib.hid (HK2.out.trans hk)
  have HG3 := Lib.hid (hk.heap HG2.out (fun h => h))
  clear hk c0 c1 c2 c3 c4
  obtain ⟨c0, c1, c2, c3, c4⟩ := blk5 HG3.out
  go_wp2_with fail
  refine (CR.out _ _ HK3.out HO3.out).mono ?_
  rintro e w4 ⟨rfl, hk⟩
  have HK4 := Lib.hid (HK3.out.trans hk)
  clear hk c0 c1 c2 c3 c4
  go_wp2_with fail
  refine (CAL.out _ HK4.out).mono ?_
  rintro e w5 ⟨rfl, hk⟩
  go_wp2_with fail
  go_ret
  exact ⟨rfl, HK4.out.trans hk⟩
end Go.Proofs.YtdinkdmkbfbjbaaDoor
