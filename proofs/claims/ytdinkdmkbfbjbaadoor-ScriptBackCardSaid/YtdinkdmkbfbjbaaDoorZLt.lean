/- Merged: Rows of deeds in memory; The line of a world's settings; Is one of a row's deeds none that has a line?; The line of a world's settings, by the program; A script's text, by the program; Settings of a line, by both texts' ways; Settings of a line, by the program; The script of a text: by definition, and by the program; Inputs cut; the law of quoted texts; A script's text, by the document; A script's text is read as it: plain; The script of a text, by the program; Two rows of deeds: the same?; The law of lines; The first deeds of a row, cut; The law of scripts' texts. -/
import Derived.Test.YtdinkdmkbfbjbaaDoorZAl
import Derived.Lib.SplitLaws
set_option linter.all false
namespace Go.Proofs.YtdinkdmkbfbjbaaDoor
open Go.RowKit
attribute [local go_sem] fold_part fold_some fold_some' partAt_zero

/-- A deed's five cells; the second is its bytes' slice. -/
def dCells (p : Deed × Value) : List Value := [.int .i64 p.1.kind, .int .i64 p.1.a, .int .i64 p.1.n, .int .u64 p.1.draw, p.2]
theorem dCells_len (ps : List (Deed × Value)) : (ps.flatMap dCells).length = 5 * ps.length := by
  induction ps with
  | nil => rfl
  | cons p ps ih => rw [List.flatMap_cons, List.length_append, ih]; simp [dCells]; omega
theorem dCells_at : ∀ (ps : List (Deed × Value)) (i j : Nat) (p : Deed × Value), ps[i]? = some p → j < 5 → (ps.flatMap dCells)[i * 5 + j]? = (dCells p)[j]?
  | [], i, j, p, h, _ => by simp at h
  | q :: ps, 0, j, p, h, hj => by
    obtain rfl : q = p := by simpa using h
    rw [List.flatMap_cons, List.getElem?_append_left (by simp [dCells]; omega)]
    simp
  | q :: ps, i + 1, j, p, h, hj => by
    rw [List.flatMap_cons, List.getElem?_append_right (by simp [dCells]; omega)]
    have e : (i + 1) * 5 + j - (dCells q).length = i * 5 + j := by simp [dCells]; omega
    rw [e]
    exact dCells_at ps i j p (by simpa using h) hj
theorem dCells_one (ps : List (Deed × Value)) (h : ∀ p ∈ ps, p.2.oneCell' = true) : ∀ u ∈ ps.flatMap dCells, u.oneCell' = true := by
  intro u hu
  obtain ⟨p, hp, hu⟩ := List.mem_flatMap.1 hu
  simp only [dCells, List.mem_cons, List.not_mem_nil, or_false] at hu
  rcases hu with rfl | rfl | rfl | rfl | rfl
  · rfl
  · rfl
  · rfl
  · rfl
  · exact h p hp

/-- A slice of deeds: the cells. -/
def DeedsV (w : World) (v : Value) (ps : List (Deed × Value)) : Prop := ∃ ap cap, v = .slice ap ps.length cap ∧ Holds w ap (5 * ps.length) (ps.flatMap dCells) ∧ ps.length ≤ cap ∧ (ap = none → cap = 0)
/-- The deeds' bytes. -/
def BsV (w : World) (ps : List (Deed × Value)) : Prop := ∀ p ∈ ps, BytesV w p.2 p.1.b

theorem DeedsV.kept {w w' : World} {v : Value} {ps : List (Deed × Value)} (h : DeedsV w v ps) (hk : Kept NoBlock w w') : DeedsV w' v ps := by
  obtain ⟨ap, cap, rfl, h1, h2, h3⟩ := h
  exact ⟨ap, cap, rfl, h1.keptS hk (fun _ _ h => h), h2, h3⟩
theorem BsV.kept {w w' : World} {ps : List (Deed × Value)} (h : BsV w ps) (hk : Kept NoBlock w w') : BsV w' ps := fun p hp => (h p hp).keptNo hk

theorem add_off (a : Addr) (i j : Nat) (hj : j ≠ 0) : a.add (i + j) = ⟨(a.add i).block, (a.add i).off + j, none⟩ := by
  rw [← addr_add_add]
  generalize a.add i = b
  simp [Addr.add, hj]

theorem DeedsV.at {w : World} {ap : Option Addr} {n cap : Nat} {ps : List (Deed × Value)} (h : DeedsV w (.slice ap n cap) ps) {i : Nat} {p : Deed × Value} (hi : ps[i]? = some p) :
    ∃ ad, ap = some ad ∧ w.cell? (ad.add (i * 5)) = some (.int .i64 p.1.kind) ∧ w.cell? ⟨(ad.add (i * 5)).block, (ad.add (i * 5)).off + 1, none⟩ = some (.int .i64 p.1.a) ∧ w.cell? ⟨(ad.add (i * 5)).block, (ad.add (i * 5)).off + 2, none⟩ = some (.int .i64 p.1.n) ∧
      w.cell? ⟨(ad.add (i * 5)).block, (ad.add (i * 5)).off + 3, none⟩ = some (.int .u64 p.1.draw) ∧ w.cell? ⟨(ad.add (i * 5)).block, (ad.add (i * 5)).off + 4, none⟩ = some p.2 := by
  obtain ⟨ap', cap', e, h1, h2, h3⟩ := h
  cases e
  have hl := (List.getElem?_eq_some_iff.1 hi).1
  obtain ⟨ad, rfl, hc⟩ := h1.2 (by omega)
  refine ⟨ad, rfl, hc _ _ (dCells_at ps i 0 p hi (by decide)), ?_, ?_, ?_, ?_⟩
  · rw [← add_off ad (i * 5) 1 (by decide)]; exact hc _ _ (dCells_at ps i 1 p hi (by decide))
  · rw [← add_off ad (i * 5) 2 (by decide)]; exact hc _ _ (dCells_at ps i 2 p hi (by decide))
  · rw [← add_off ad (i * 5) 3 (by decide)]; exact hc _ _ (dCells_at ps i 3 p hi (by decide))
  · rw [← add_off ad (i * 5) 4 (by decide)]; exact hc _ _ (dCells_at ps i 4 p hi (by decide))

/-- A row of deeds that the call itself has made. -/
def OwnD (w : World) (base : Nat) (v : Value) (ps : List (Deed × Value)) : Prop := w.ownsRow base 36 5 v ps.length (ps.flatMap dCells)
theorem OwnD.nil (w : World) (base : Nat) : OwnD w base (.slice none 0 0) [] := World.ownsRow_nil _ _ _ _
theorem OwnD.deeds {w : World} {base : Nat} {v : Value} {ps : List (Deed × Value)} (h : OwnD w base v ps) : DeedsV w v ps := by
  have hl : (ps.flatMap dCells).length = 5 * ps.length := dCells_len ps
  rcases h.2 with ⟨rfl, h0⟩ | ⟨g, cap, cur, rfl, hb, hg, hn, _, _, _⟩
  · refine ⟨none, 0, by rw [h0], ⟨hl, fun hp => ?_⟩, by omega, fun _ => rfl⟩
    omega
  · exact ⟨some ⟨g, 0, none⟩, cap, rfl, ⟨hl, fun _ => ⟨_, rfl, World.ownsRow.cells h rfl⟩⟩, hn, fun h => by cases h⟩
theorem OwnD.form {w : World} {base : Nat} {v : Value} {ps : List (Deed × Value)} (h : OwnD w base v ps) : ∃ ap cap, v = .slice ap ps.length cap ∧ ps.length ≤ cap := by
  obtain ⟨ap, cap, rfl, _, h, _⟩ := h.deeds
  exact ⟨ap, cap, rfl, h⟩
theorem OwnD.kept {w w' : World} {base : Nat} {v : Value} {ps : List (Deed × Value)} (h : OwnD w base v ps) (hk : Kept NoBlock w w') : OwnD w' base v ps := by
  refine ⟨h.1, ?_⟩
  rcases h.2 with hn | ⟨g, cap, cur, rfl, hb, hg, rest⟩
  · exact .inl hn
  · exact .inr ⟨g, cap, cur, rfl, hb, hk.heap hg (fun h => h), rest⟩
theorem OwnD.lt {w : World} {base : Nat} {v : Value} {ps : List (Deed × Value)} (h : OwnD w base v ps) : ∀ k, v.ownBlock = some k → base ≤ k ∧ k < w.heap.size := World.ownsRow.lt h
theorem Kept.appD {w0 w w' : World} {base : Nat} {v : Value} {ps : List (Deed × Value)} {S : Nat → Prop} (hk : Kept S w0 w) (hown : OwnD w base v ps) (hb : w0.heap.size ≤ base) (hg : w.grownBy w' v.ownBlock) : Kept S w0 w' :=
  hk.grown hg (fun k e hlt => absurd hlt (by have := (hown.lt k e).1; omega))

theorem deedInfo : (Tryd.prog.info? 36).map (fun i => (i.zero, i.size, i.bytes)) = some (some (.agg #[.int .i64 0, .int .i64 0, .int .i64 0, .int .u64 0, .slice none 0 0]), 5, 56) := by kernel_rfl

/-- 'append(l, d)'. -/
theorem wpList_appD {w : World} {ops : Array Oper} {rest : List Oper} {o : Oper} {a : Act} {Q : Exit → Act → World → Prop} (hgd : o.guard = none) (s x : Operand)
    (ho : o.op = .call { callee := .builtin .append, args := #[s, x], argTypes := #[53, 53] })
    (base : Nat) (v : Value) (ps : List (Deed × Value)) (hs : a.eval s = v) (hown : OwnD w base v ps) (b : Nat) (p : Deed × Value) (hx : a.eval x = .slice (some ⟨b, 0, none⟩) 1 1)
    (hu : w.heap[b]? = some (.cells #[.int .i64 p.1.kind, .int .i64 p.1.a, .int .i64 p.1.n, .int .u64 p.1.draw, p.2] 36 (0, 0))) (h1 : p.2.oneCell' = true) (hlen : ps.length ≤ 1100000) (hbase : base ≤ w.heap.size)
    (h : ∀ v' w', OwnD w' base v' (ps ++ [p]) → w.grownBy w' v.ownBlock → wpList Tryd.prog ops Q rest (a.put o.dst v') w') : wpList Tryd.prog ops Q (o :: rest) a w := by
  obtain ⟨i0, hi, hz0, hz1, hz2⟩ := info_parts deedInfo
  refine wpList_append_own (P := Tryd.prog) w hgd s x 53 ho base 36 i0 _ 5 56 Tryd.underlying53 hi hz0 hz1 hz2 rfl (by decide) v ps.length (ps.flatMap dCells) hs hown ⟨b, 0, none⟩ 1 1 (dCells p) hx rfl
    (fun j u hj => by rw [addr_add, Nat.zero_add]; exact cellB hu (by simpa [dCells] using hj))
    (fun u hu' => dCells_one [p] (fun q hq => by obtain rfl := List.mem_singleton.1 hq; exact h1) u (by simpa using hu')) (by unfold maxLen; omega) (by omega) hbase ?_
  intro v' w' hr hg _
  refine h v' w' ?_ hg
  unfold OwnD
  rw [List.length_append, List.flatMap_append]
  simpa using hr

/-- A deed's bytes, cut: where they lie. -/
def cutW (p : Deed × Value) : Value := match p.2 with | .slice ap _ cap => .slice ap (p.1.b.take 2000).length cap | v => v
def cutP (p : Deed × Value) : Deed × Value := (⟨p.1.kind, p.1.a, p.1.n, p.1.draw, p.1.b.take 2000⟩, cutW p)
end Go.Proofs.YtdinkdmkbfbjbaaDoor
namespace Go.Proofs.YtdinkdmkbfbjbaaDoor
open Go.RowKit
attribute [local go_sem] fold_part fold_some fold_some' partAt_zero

structure Conf where
  c0 : Int
  c1 : Int
  c2 : Int
  c3 : Int
  c4 : Int
structure Conf.Fits (c : Conf) : Prop where
  h0 : -9223372036854775808 ≤ c.c0 ∧ c.c0 ≤ 9223372036854775807
  h1 : -9223372036854775808 ≤ c.c1 ∧ c.c1 ≤ 9223372036854775807
  h2 : -9223372036854775808 ≤ c.c2 ∧ c.c2 ≤ 9223372036854775807
  h3 : -9223372036854775808 ≤ c.c3 ∧ c.c3 ≤ 9223372036854775807
  h4 : -9223372036854775808 ≤ c.c4 ∧ c.c4 ≤ 9223372036854775807
def Conf.list (c : Conf) : List Int := [c.c0, c.c1, c.c2, c.c3, c.c4]
def confV (c : Conf) : Value := .agg #[.int .i64 c.c0, .int .i64 c.c1, .int .i64 c.c2, .int .i64 c.c3, .int .i64 c.c4]
def headA (l : List Int) : Bs := l.flatMap fun n => 32 :: Lib.itoa n
def headC (c : Conf) : Bs := [119, 111, 114, 108, 100] ++ headA c.list
theorem headA_snoc (l : List Int) (n : Int) : headA (l ++ [n]) = headA l ++ (32 :: Lib.itoa n) := by simp [headA]
theorem headA_len : ∀ l : List Int, (∀ n ∈ l, -9223372036854775808 ≤ n ∧ n ≤ 9223372036854775807) → (headA l).length ≤ 31 * l.length
  | [], _ => by simp [headA]
  | n :: l, h => by
    have := itoa_len n (h n (by simp))
    have := headA_len l (fun m hm => h m (by simp [hm]))
    simp only [headA, List.flatMap_cons, List.length_append, List.length_cons] at this ⊢
    omega
theorem Conf.Fits.all {c : Conf} (h : c.Fits) : ∀ n ∈ c.list, -9223372036854775808 ≤ n ∧ n ≤ 9223372036854775807 := by
  intro n hn
  simp only [Conf.list, List.mem_cons, List.not_mem_nil, or_false] at hn
  rcases hn with rfl | rfl | rfl | rfl | rfl
  · exact h.h0
  · exact h.h1
  · exact h.h2
  · exact h.h3
  · exact h.h4
theorem headC_len {c : Conf} (h : c.Fits) : (headC c).length ≤ 200 := by
  have := headA_len c.list h.all
  simp only [headC, List.length_append, List.length_cons, List.length_nil]
  have e : c.list.length = 5 := rfl
  omega

set_option maxRecDepth 100000 in
set_option maxHeartbeats 3200000 in
theorem rhead (c : Conf) (hf : c.Fits) (w : World) :
    Calls Tryd.prog 49 #[confV c] w fun e w' => e = .returned (.string ⟨(headC c).toArray⟩) ∧ Kept NoBlock w w' := by
  have hn := fun n W (h : -9223372036854775808 ≤ n ∧ n ≤ 9223372036854775807) => rnumber n h W
  have hl := fun n (h : -9223372036854775808 ≤ n ∧ n ≤ 9223372036854775807) => itoa_len n h
  obtain ⟨a0, a1, a2, a3, a4⟩ := c
  obtain ⟨h0, h1, h2, h3, h4⟩ := hf
  simp only at h0 h1 h2 h3 h4
  have n0 := fun W => hn a0 W h0
  have l0 := hl a0 h0
  obtain ⟨S0, e0⟩ : ∃ S : ByteArray, S = ⟨(32 :: Lib.itoa a0).toArray⟩ := ⟨_, rfl⟩
  have s0 : S0.size ≤ 31 := by rw [str_size e0, List.length_cons]; omega
  rw [← e0] at n0
  have N0 := Lib.hid n0
  have E0 := Lib.hid e0
  have n1 := fun W => hn a1 W h1
  have l1 := hl a1 h1
  obtain ⟨S1, e1⟩ : ∃ S : ByteArray, S = ⟨(32 :: Lib.itoa a1).toArray⟩ := ⟨_, rfl⟩
  have s1 : S1.size ≤ 31 := by rw [str_size e1, List.length_cons]; omega
  rw [← e1] at n1
  have N1 := Lib.hid n1
  have E1 := Lib.hid e1
  have n2 := fun W => hn a2 W h2
  have l2 := hl a2 h2
  obtain ⟨S2, e2⟩ : ∃ S : ByteArray, S = ⟨(32 :: Lib.itoa a2).toArray⟩ := ⟨_, rfl⟩
  have s2 : S2.size ≤ 31 := by rw [str_size e2, List.length_cons]; omega
  rw [← e2] at n2
  have N2 := Lib.hid n2
  have E2 := Lib.hid e2
  have n3 := fun W => hn a3 W h3
  have l3 := hl a3 h3
  obtain ⟨S3, e3⟩ : ∃ S : ByteArray, S = ⟨(32 :: Lib.itoa a3).toArray⟩ := ⟨_, rfl⟩
  have s3 : S3.size ≤ 31 := by rw [str_size e3, List.length_cons]; omega
  rw [← e3] at n3
  have N3 := Lib.hid n3
  have E3 := Lib.hid e3
  have n4 := fun W => hn a4 W h4
  have l4 := hl a4 h4
  obtain ⟨S4, e4⟩ : ∃ S : ByteArray, S = ⟨(32 :: Lib.itoa a4).toArray⟩ := ⟨_, rfl⟩
  have s4 : S4.size ≤ 31 := by rw [str_size e4, List.length_cons]; omega
  rw [← e4] at n4
  have N4 := Lib.hid n4
  have E4 := Lib.hid e4
  clear hn hl h0 h1 h2 h3 h4 n0 l0 e0 n1 l1 e1 n2 l2 e2 n3 l3 e3 n4 l4 e4
  unfold confV
  simp only
  have hcells : ∀ W, Kept NoBlock (w.alloc (.cells #[.int .i64 a0, .int .i64 a1, .int .i64 a2, .int .i64 a3, .int .i64 a4] 52)) W →
      W.cell? ⟨w.heap.size, 0, none⟩ = some (.int .i64 a0) ∧ W.cell? ⟨w.heap.size, 1, none⟩ = some (.int .i64 a1) ∧ W.cell? ⟨w.heap.size, 2, none⟩ = some (.int .i64 a2) ∧ W.cell? ⟨w.heap.size, 3, none⟩ = some (.int .i64 a3) ∧ W.cell? ⟨w.heap.size, 4, none⟩ = some (.int .i64 a4) := fun W hk =>
    blk5 (T := 52) (hk.heap (heap_alloc_new w _) (fun h => h))
  have HCL := Lib.hid hcells
  have HKW := Lib.hid (Kept.allocd w (.cells #[.int .i64 a0, .int .i64 a1, .int .i64 a2, .int .i64 a3, .int .i64 a4] 52))
  clear hcells
  have z0 : ¬ (9223372036854775807 < 5 + S0.size) := by omega
  have z1 : ¬ (9223372036854775807 < 5 + S0.size + S1.size) := by omega
  have z2 : ¬ (9223372036854775807 < 5 + S0.size + S1.size + S2.size) := by omega
  have z3 : ¬ (9223372036854775807 < 5 + S0.size + S1.size + S2.size + S3.size) := by omega
  have z4 : ¬ (9223372036854775807 < 5 + S0.size + S1.size + S2.size + S3.size + S4.size) := by omega
  go_enter Tryd.func49, Tryd.ntmps49
  go_wp2_with fail
  generalize w.alloc (.cells #[.int .i64 a0, .int .i64 a1, .int .i64 a2, .int .i64 a3, .int .i64 a4] 52) = W1 at *
  refine wp_planC (fun W => Kept NoBlock W1 W) 27 [.flt 4, .flt 5, .flt 6, .flt 9, .flt 10, .flt 11, .flt 12, .flt 15, .flt 16, .flt 17, .flt 18, .flt 21, .flt 22, .flt 23, .seg [0, 1] 2, .flt 3, .seg [] 7, .flt 8, .seg [] 13, .flt 14, .seg [] 19, .flt 20, .seg [] 24] [25, 26] (by kernel_rfl) (by kernel_rfl) (fun _ _ _ dst _ h => by cases dst <;> exact h) (fun _ _ h => h.drewN _) (Kept.refl _ _) (fun q0 => ?_)
  simp only [wpPlanC, pick, List.filterMap_cons, List.filterMap_nil, List.getElem?_cons_succ, List.getElem?_cons_zero]
  iterate 14 (refine wpFloat_ex rfl ?_; apply Exists.intro; refine ⟨fun w' hw' => ?_, ?_⟩; (obtain ⟨u0, u1, u2, u3, u4⟩ := HCL.out w' hw'; go_simp; first | rfl | exact ⟨rfl, rfl⟩); simp only [Act.put, List.setIfInBounds_toArray, List.set_cons_succ, List.set_cons_zero])
  obtain ⟨d0, d1, d2, d3, d4⟩ := HCL.out _ (Kept.refl _ _)
  repeat (quiet_step (fail))
  refine wpQuiet_nil ?_
  rintro _ ⟨q1, rfl⟩
  go_wp2_with fail
  refine (N0.out _).mono ?_
  rintro e w2 ⟨rfl, hk⟩
  have HK0 := Lib.hid (((Kept.refl NoBlock W1).drewN _).trans hk)
  clear hk
  go_wp2_with fail
  refine Halt.mk ⟨.inr HK0.out, ?_⟩
  (refine wpFloat_ex rfl ?_; apply Exists.intro; refine ⟨fun w' hw' => ?_, ?_⟩; (go_simp; first | rfl | exact ⟨rfl, rfl⟩); simp only [Act.put, List.setIfInBounds_toArray, List.set_cons_succ, List.set_cons_zero])
  clear d0 d1 d2 d3 d4
  go_wp2_with fail
  refine (N1.out _).mono ?_
  rintro e w3 ⟨rfl, hk⟩
  have HK1 := Lib.hid (HK0.out.trans hk)
  clear hk
  go_wp2_with fail
  refine Halt.mk ⟨.inr HK1.out, ?_⟩
  (refine wpFloat_ex rfl ?_; apply Exists.intro; refine ⟨fun w' hw' => ?_, ?_⟩; (go_simp; first | rfl | exact ⟨rfl, rfl⟩); simp only [Act.put, List.setIfInBounds_toArray, List.set_cons_succ, List.set_cons_zero])
  go_wp2_with fail
  refine (N2.out _).mono ?_
  rintro e w4 ⟨rfl, hk⟩
  have HK2 := Lib.hid (HK1.out.trans hk)
  clear hk
  go_wp2_with fail
  refine Halt.mk ⟨.inr HK2.out, ?_⟩
  (refine wpFloat_ex rfl ?_; apply Exists.intro; refine ⟨fun w' hw' => ?_, ?_⟩; (go_simp; first | rfl | exact ⟨rfl, rfl⟩); simp only [Act.put, List.setIfInBounds_toArray, List.set_cons_succ, List.set_cons_zero])
  go_wp2_with fail
  refine (N3.out _).mono ?_
  rintro e w5 ⟨rfl, hk⟩
  have HK3 := Lib.hid (HK2.out.trans hk)
  clear hk
  go_wp2_with fail
  refine Halt.mk ⟨.inr HK3.out, ?_⟩
  (refine wpFloat_ex rfl ?_; apply Exists.intro; refine ⟨fun w' hw' => ?_, ?_⟩; (go_simp; first | rfl | exact ⟨rfl, rfl⟩); simp only [Act.put, List.setIfInBounds_toArray, List.set_cons_succ, List.set_cons_zero])
  go_wp2_with fail
  refine (N4.out _).mono ?_
  rintro e w6 ⟨rfl, hk⟩
  have HK4 := Lib.hid (HK3.out.trans hk)
  clear hk
  go_wp2_with fail
  refine Halt.mk ⟨.inr HK4.out, ?_⟩
  repeat (quiet_step (fail))
  refine wpQuiet_nil ?_
  rintro _ ⟨q6, rfl⟩
  go_wp2_with fail
  go_ret
  refine ⟨?_, HKW.out.trans (HK4.out.drewN _)⟩
  rw [E0.out, E1.out, E2.out, E3.out, E4.out]
  show Ending.returned (.string ((((((⟨#[119, 111, 114, 108, 100]⟩ : ByteArray) ++ ⟨(32 :: Lib.itoa a0).toArray⟩) ++ ⟨(32 :: Lib.itoa a1).toArray⟩) ++ ⟨(32 :: Lib.itoa a2).toArray⟩) ++ ⟨(32 :: Lib.itoa a3).toArray⟩) ++ ⟨(32 :: Lib.itoa a4).toArray⟩)) = _
  rw [show (⟨#[119, 111, 114, 108, 100]⟩ : ByteArray) = ⟨([119, 111, 114, 108, 100] : Bs).toArray⟩ from rfl]
  simp only [str_app]
  simp [headC, headA, Conf.list]
end Go.Proofs.YtdinkdmkbfbjbaaDoor
namespace Go.Proofs.YtdinkdmkbfbjbaaDoor
open Go.RowKit
attribute [local go_sem] fold_part fold_some fold_some' partAt_zero

def badT (d : Deed) : Bool := decide ((textD d).2 ≠ 0)
def FitsL (ps : List (Deed × Value)) : Prop := ∀ p ∈ ps, p.1.Fits

theorem textD_code (d : Deed) : (textD d).2 = 0 ∨ (textD d).2 = 251 := by unfold textD; split; exact .inr rfl; split; exact .inl rfl; exact .inr rfl

set_option maxRecDepth 100000 in
theorem pbad (v : Value) (d : Deed) (w : World) (hV : Vs w) (h : DeedV w v d) (hf : d.Fits) :
    Calls Tryd.prog 46 #[v] w fun e w' => e = .returned (.bool (badT d)) ∧ Kept NoBlock w w' := by
  have ht := fun W (hk : Kept NoBlock w W) => ptext v d W (hV.below hk.toB) (h.kept hk) hf
  obtain ⟨bv, rfl, hb⟩ := h
  obtain ⟨ap, cap, rfl, _⟩ := hb.parts
  have hco := textD_code d
  unfold badT
  generalize textD d = T at *
  obtain ⟨T1, T2⟩ := T
  simp only at ht hco ⊢
  have HT := Lib.hid ht
  have hcl := blk5 (heap_alloc_new w (.cells #[.int .i64 d.kind, .int .i64 d.a, .int .i64 d.n, .int .u64 d.draw, .slice ap d.b.length cap] 36))
  have HK := Lib.hid (Kept.allocd w (.cells #[.int .i64 d.kind, .int .i64 d.a, .int .i64 d.n, .int .u64 d.draw, .slice ap d.b.length cap] 36))
  have HCL := Lib.hid hcl
  clear ht hb hV hf hcl
  generalize (⟨T1.toArray⟩ : ByteArray) = S at *
  generalize d.b.length = m at *
  go_enter Tryd.func46, Tryd.ntmps46
  go_wp2_with fail
  generalize w.alloc (.cells #[.int .i64 d.kind, .int .i64 d.a, .int .i64 d.n, .int .u64 d.draw, .slice ap m cap] 36) = W1 at *
  refine (HT.out _ HK.out).mono ?_
  rintro e w2 ⟨rfl, hk⟩
  rcases hco with rfl | rfl
  · go_wp2_with fail
    go_ret
    exact ⟨rfl, HK.out.trans hk⟩
  · go_wp2_with fail
    go_ret
    exact ⟨rfl, HK.out.trans hk⟩

set_option maxRecDepth 100000 in
set_option maxHeartbeats 1600000 in
theorem pindexf (v : Value) (ps : List (Deed × Value)) (w : World) (hV : Vs w) (h : DeedsV w v ps) (hb : BsV w ps) (hf : FitsL ps) (hlen : ps.length ≤ 1000000) :
    Calls Tryd.prog 67 #[v, .func (.func 46) #[] #[]] w fun e w' => ∃ r : Int, e = .returned (.int .i64 r) ∧ ((0 ≤ r ∧ (ps.any fun p => badT p.1) = true) ∨ (r = -1 ∧ (ps.any fun p => badT p.1) = false)) ∧ Kept NoBlock w w' := by
  have hDV := h
  obtain ⟨ap, cap, rfl, hH, hcap, _⟩ := h
  have hpb := fun p (hp : p ∈ ps) v W (hk : Kept NoBlock w W) (hv : DeedV W v p.1) => pbad v p.1 W (hV.below hk.toB) hv (hf p hp)
  have HPB := Lib.hid hpb
  have HDV := Lib.hid hDV
  have HB := Lib.hid hb
  obtain ⟨n, hN⟩ : ∃ n, n = ps.length := ⟨_, rfl⟩
  have hn : n ≤ 1000000 := by omega
  rw [← hN] at HDV hcap ⊢
  have HN := Lib.hid hN
  clear hDV hH hb hlen hN hV hf hpb
  generalize hA : (ps.any fun p => badT p.1) = A
  have HA := Lib.hid hA
  clear hA
  go_enter Tryd.func67, Tryd.ntmps67
  go_wp2
  go_loopw [8] (fun vi wr => ∃ i : Nat, vi = .int .i64 i ∧ i ≤ n ∧ ((ps.take i).any fun p => badT p.1) = false ∧ Kept NoBlock w wr) (fun vi _ => n - (intOf vi).toNat)
  case atStart => exact ⟨0, rfl, Nat.zero_le _, rfl, Kept.refl _ _⟩
  case round =>
    obtain ⟨i, rfl, hi, hno, hK⟩ := hrel
    have HNO := Lib.hid hno
    have HK := Lib.hid hK
    clear hno hK
    by_cases hlt : i < n
    · have hltI : (i : Int) < (n : Int) := by omega
      have hil : i < ps.length := by have := HN.out; omega
      obtain ⟨p, hp⟩ : ∃ p, ps[i]? = some p := ⟨ps[i], List.getElem?_eq_getElem hil⟩
      have hpm := List.mem_of_getElem? hp
      obtain ⟨ad, rfl, a0, a1, a2, a3, a4⟩ := (HDV.out.kept HK.out).at hp
      have hbv := (HB.out p hpm).keptNo HK.out
      have htk : ((ps.take (i + 1)).any fun p => badT p.1) = badT p.1 := by rw [List.take_add_one, hp, List.any_append, HNO.out]; simp
      have hall : badT p.1 = true → A = true := fun h => by
        rw [← HA.out, List.any_eq_true]
        exact ⟨p, hpm, h⟩
      have hcall := HPB.out p hpm
      obtain ⟨d, bv⟩ := p
      simp only at a0 a1 a2 a3 a4 hbv htk hall hcall
      obtain ⟨bp, bc, rfl, _⟩ := hbv.parts
      have HBV := Lib.hid hbv
      have HTK := Lib.hid htk
      have HALL := Lib.hid hall
      have HC := Lib.hid hcall
      clear hp hpm hbv htk hall hcall hil
      generalize badT d = B at *
      go_wp2_with fail
      refine (HC.out _ _ HK.out ⟨_, rfl, HBV.out⟩).mono ?_
      rintro e w2 ⟨rfl, hk⟩
      have HK2 := Lib.hid (HK.out.trans hk)
      clear hk
      cases B with
      | true =>
        go_wp2
        go_ret
        exact ⟨_, rfl, .inl ⟨by omega, HALL.out trivial⟩, HK2.out⟩
      | false =>
        go_wp2
        go_roundw
        case rel => exact ⟨i + 1, by go_num, by omega, HTK.out, HK2.out⟩
        case measure => simp [intOf]; omega
    · obtain rfl : i = n := by omega
      have hfin : A = false := by rw [← HA.out, ← HNO.out, List.take_of_length_le (by have := HN.out; omega)]
      have HFIN := Lib.hid hfin
      clear hfin
      go_wp2
      go_ret
      exact ⟨_, rfl, .inr ⟨rfl, HFIN.out⟩, HK.out⟩

theorem pcontains (v : Value) (ps : List (Deed × Value)) (w : World) (hV : Vs w) (h : DeedsV w v ps) (hb : BsV w ps) (hf : FitsL ps) (hlen : ps.length ≤ 1000000) :
    Calls Tryd.prog 45 #[v, .func (.func 46) #[] #[]] w fun e w' => e = .returned (.bool (ps.any fun p => badT p.1)) ∧ Kept NoBlock w w' := by
  have hx := pindexf v ps w hV h hb hf hlen
  obtain ⟨ap, cap, rfl, _⟩ := h
  generalize (ps.any fun p => badT p.1) = A at *
  generalize ps.length = n at *
  have HX := Lib.hid hx
  clear hx hb hf
  go_enter Tryd.func45, Tryd.ntmps45
  go_wp2_with fail
  refine HX.out.mono ?_
  rintro e w2 ⟨r, rfl, hr, hk⟩
  have HK := Lib.hid hk
  clear hk
  rcases hr with ⟨h0, rfl⟩ | ⟨rfl, rfl⟩
  · go_wp2_with fail
    go_ret
    exact ⟨rfl, HK.out⟩
  · go_wp2_with fail
    go_ret
    exact ⟨rfl, HK.out⟩
end Go.Proofs.YtdinkdmkbfbjbaaDoor
namespace Go.Proofs.YtdinkdmkbfbjbaaDoor
open Go.RowKit
attribute [local go_sem] fold_part fold_some fold_some' partAt_zero

def headP (c : Conf) (i : Nat) : Bs := [119, 111, 114, 108, 100] ++ headA (c.list.take i)
theorem headP_full (c : Conf) : headP c 5 = headC c := rfl
theorem headP_len {c : Conf} (h : c.Fits) (i : Nat) : (headP c i).length ≤ 200 := by
  have := headA_len (c.list.take i) (fun n hn => h.all n (List.mem_of_mem_take hn))
  have e : (c.list.take i).length ≤ 5 := by rw [List.length_take]; exact Nat.le_trans (Nat.min_le_right _ _) (Nat.le_refl 5)
  simp only [headP, List.length_append, List.length_cons, List.length_nil]
  omega

set_option maxRecDepth 100000 in
set_option maxHeartbeats 3200000 in
theorem phead (c : Conf) (hf : c.Fits) (w : World) (hV : Vs w) :
    Calls Tryd.prog 47 #[confV c] w fun e w' => e = .returned (.string ⟨(headC c).toArray⟩) ∧ Kept NoBlock w w' := by
  have hn := fun n W (h : -9223372036854775808 ≤ n ∧ n ≤ 9223372036854775807) (hk : Kept NoBlock w W) => (ntext n h.1 h.2 W (hV.below hk.toB)).mono (R' := fun e w' => e = .returned (.string ⟨(Lib.itoa n).toArray⟩) ∧ Kept NoBlock W w') (fun _ _ ⟨e, h⟩ => ⟨e, Kept.ofB h⟩)
  have hall := hf.all
  have hpl := headP_len hf
  have hil := fun n (h : -9223372036854775808 ≤ n ∧ n ≤ 9223372036854775807) => itoa_len n h
  have HNT := Lib.hid hn
  have HALL := Lib.hid hall
  have HPL := Lib.hid hpl
  have HIL := Lib.hid hil
  clear hn hall hpl hil hf hV
  have hW2 := heap_alloc_new (w.alloc (.cells #[.int .i64 c.c0, .int .i64 c.c1, .int .i64 c.c2, .int .i64 c.c3, .int .i64 c.c4] 52)) (.cells #[.int .i64 c.c0, .int .i64 c.c1, .int .i64 c.c2, .int .i64 c.c3, .int .i64 c.c4] 3)
  rw [World.size_alloc] at hW2
  have HW2 := Lib.hid hW2
  have HK2 := Lib.hid ((Kept.allocd w (.cells #[.int .i64 c.c0, .int .i64 c.c1, .int .i64 c.c2, .int .i64 c.c3, .int .i64 c.c4] 52)).alloc (.cells #[.int .i64 c.c0, .int .i64 c.c1, .int .i64 c.c2, .int .i64 c.c3, .int .i64 c.c4] 3))
  clear hW2
  unfold confV
  go_enter Tryd.func47, Tryd.ntmps47
  go_wp2
  generalize (w.alloc (.cells #[.int .i64 c.c0, .int .i64 c.c1, .int .i64 c.c2, .int .i64 c.c3, .int .i64 c.c4] 52)).alloc (.cells #[.int .i64 c.c0, .int .i64 c.c1, .int .i64 c.c2, .int .i64 c.c3, .int .i64 c.c4] 3) = W2 at *
  go_loopw [3, 24] (fun vs vi wr => ∃ i : Nat, vi = .int .i64 i ∧ i ≤ 5 ∧ vs = .string ⟨(headP c i).toArray⟩ ∧ Kept NoBlock W2 wr) (fun _ vi _ => 5 - (intOf vi).toNat)
  case atStart => exact ⟨0, rfl, by decide, rfl, Kept.refl _ _⟩
  case round =>
    obtain ⟨i, rfl, hi, rfl, hK⟩ := hrel
    have HK := Lib.hid hK
    clear hK
    by_cases hlt : i < 5
    · have hltI : (i : Int) < 5 := by omega
      obtain ⟨n, hn⟩ : ∃ n, c.list[i]? = some n := ⟨c.list[i]'hlt, List.getElem?_eq_getElem hlt⟩
      have hcell : wr.cell? ⟨w.heap.size + 1, i, none⟩ = some (.int .i64 n) := by
        refine cellB (HK.out.heap HW2.out (fun h => h)) ?_
        have : (#[Value.int .i64 c.c0, .int .i64 c.c1, .int .i64 c.c2, .int .i64 c.c3, .int .i64 c.c4] : Array Value) = (c.list.map (Value.int .i64)).toArray := rfl
        rw [this]
        simp [hn]
      have hr := HALL.out n (List.mem_of_getElem? hn)
      have hst : headP c (i + 1) = headP c i ++ ([32] ++ Lib.itoa n) := by
        unfold headP
        rw [List.take_add_one, hn]
        simp [headA]
      have hs := HPL.out i
      obtain ⟨S, hS⟩ : ∃ S : ByteArray, S = ⟨(headP c i).toArray⟩ := ⟨_, rfl⟩
      have hSz : S.size ≤ 200 := by rw [str_size hS]; exact hs
      have ht := HNT.out n
      have hl := HIL.out n hr
      obtain ⟨A, hA⟩ : ∃ A : ByteArray, A = ⟨(Lib.itoa n).toArray⟩ := ⟨_, rfl⟩
      have hAz : A.size ≤ 30 := by rw [str_size hA]; exact hl
      rw [← hA] at ht
      rw [← hS]
      have HR := Lib.hid hr
      have HT := Lib.hid ht
      have HS := Lib.hid hS
      have HA := Lib.hid hA
      have HST := Lib.hid hst
      clear hn hr ht hS hA hst hs hl
      go_wp2_with fail
      refine (HT.out _ HR.out (HK2.out.trans HK.out)).mono ?_
      rintro e w3 ⟨rfl, hk⟩
      have HK3 := Lib.hid (HK.out.trans hk)
      clear hk hcell
      go_wp2
      go_roundw
      case rel =>
        refine ⟨i + 1, by go_num, by omega, ?_, HK3.out⟩
        rw [HST.out, HS.out, HA.out]
        show Value.string ((⟨(headP c i).toArray⟩ : ByteArray) ++ ((⟨([32] : Bs).toArray⟩ : ByteArray) ++ ⟨(Lib.itoa n).toArray⟩)) = _
        rw [str_app, str_app]
      case measure => simp [intOf]; omega
    · obtain rfl : i = 5 := by omega
      rw [headP_full]
      go_wp2
      go_ret
      exact ⟨rfl, HK2.out.trans HK.out⟩
end Go.Proofs.YtdinkdmkbfbjbaaDoor
namespace Go.Proofs.YtdinkdmkbfbjbaaDoor
open Go.RowKit
attribute [local go_sem] fold_part fold_some fold_some' partAt_zero

def linesA (L : List Deed) : Bs := L.flatMap fun d => lineD d ++ [10]
/-- A script's text and its code. -/
def printD (c : Conf) (L : List Deed) : Bs × Int := if (L.any badT) = true then ([], 251) else (headC c ++ [10] ++ linesA L, 0)
theorem lineD_len {d : Deed} (h : d.Fits) : (lineD d).length ≤ 36200 := by
  obtain ⟨k, a, n, dr, b⟩ := d
  obtain ⟨hk, ha, hn, hdr, hbl⟩ := h
  simp only at ha hn hdr hbl
  have hla := itoa_len a ha
  have hln := itoa_len n hn
  have hld := dec_len dr hdr
  have hlq : (quote b).length ≤ 36010 := by have := (quoteA_len b).2; simp only [quote, List.length_cons, List.length_append, List.length_nil]; omega
  unfold lineD
  simp only
  repeat (split; (simp only [List.length_append, List.length_cons, List.length_nil]; omega))
  simp
theorem linesA_len : ∀ L : List Deed, (∀ d ∈ L, d.Fits) → (linesA L).length ≤ 36201 * L.length
  | [], _ => by simp [linesA]
  | d :: L, h => by
    have := lineD_len (h d (by simp))
    have := linesA_len L (fun m hm => h m (by simp [hm]))
    simp only [linesA, List.flatMap_cons, List.length_append, List.length_cons, List.length_nil] at this ⊢
    omega
theorem linesA_snoc (L : List Deed) (d : Deed) : linesA (L ++ [d]) = linesA L ++ (lineD d ++ [10]) := by simp [linesA]

theorem any_fst (ps : List (Deed × Value)) : (ps.any fun p => badT p.1) = (ps.map (·.1)).any badT := by rw [List.any_map]; rfl

set_option maxRecDepth 100000 in
set_option maxHeartbeats 3200000 in
theorem pprint (c : Conf) (hc : c.Fits) (v : Value) (ps : List (Deed × Value)) (w : World) (hV : Vs w) (h : DeedsV w v ps) (hb : BsV w ps) (hf : FitsL ps) (hlen : ps.length ≤ 30) :
    Calls Tryd.prog 21 #[confV c, v] w fun e w' => e = .returned (.tuple #[.string ⟨(printD c (ps.map (·.1))).1.toArray⟩, .int .i64 (printD c (ps.map (·.1))).2]) ∧ Kept NoBlock w w' := by
  have hDV := h
  obtain ⟨ap, cap, rfl, hH, hcap, _⟩ := h
  have hco := fun W (hk : Kept NoBlock w W) => pcontains _ ps W (hV.below hk.toB) (hDV.kept hk) (hb.kept hk) hf (by omega)
  have hhd := fun W (hk : Kept NoBlock w W) => phead c hc W (hV.below hk.toB)
  have hln := fun p (hp : p ∈ ps) v W (hk : Kept NoBlock w W) (hv : DeedV W v p.1) => pline v p.1 W (hV.below hk.toB) hv (hf p hp)
  have hll := fun p (hp : p ∈ ps) => lineD_len (hf p hp)
  have hal := fun i => linesA_len ((ps.take i).map (·.1)) (fun d hd => by obtain ⟨p, hp, rfl⟩ := List.mem_map.1 hd; exact hf p (List.mem_of_mem_take hp))
  have hhl := headC_len hc
  generalize hT : printD c (ps.map (·.1)) = T
  unfold printD at hT
  rw [← any_fst] at hT
  have HCO := Lib.hid hco
  have HHD := Lib.hid hhd
  have HLN := Lib.hid hln
  have HLL := Lib.hid hll
  have HAL := Lib.hid hal
  have HHL := Lib.hid hhl
  have HT := Lib.hid hT
  have HDV := Lib.hid hDV
  have HB := Lib.hid hb
  obtain ⟨n, hN⟩ : ∃ n, n = ps.length := ⟨_, rfl⟩
  have hn : n ≤ 30 := by omega
  have hnI : ¬ ((1048576 : Int) < (n : Int)) := by omega
  rw [← hN] at HDV HCO hcap ⊢
  have HN := Lib.hid hN
  clear hH hco hhd hln hll hal hhl hT hDV hb hN hlen hV hf hc
  generalize hH' : headC c = HC at *
  clear hH'
  have HK1 := Lib.hid (Kept.allocd w (.cells #[.int .i64 c.c0, .int .i64 c.c1, .int .i64 c.c2, .int .i64 c.c3, .int .i64 c.c4] 52))
  have HG1 := Lib.hid (heap_alloc_new w (.cells #[.int .i64 c.c0, .int .i64 c.c1, .int .i64 c.c2, .int .i64 c.c3, .int .i64 c.c4] 52))
  unfold confV at HHD ⊢
  go_enter Tryd.func21, Tryd.ntmps21
  go_wp2_with fail
  generalize w.alloc (.cells #[.int .i64 c.c0, .int .i64 c.c1, .int .i64 c.c2, .int .i64 c.c3, .int .i64 c.c4] 52) = W1 at *
  refine (HCO.out _ HK1.out).mono ?_
  rintro e w2 ⟨rfl, hk⟩
  have HK2 := Lib.hid (HK1.out.trans hk)
  have HG2 := Lib.hid (hk.heap HG1.out (fun h => h))
  clear hk HG1
  cases hany : (ps.any fun p => badT p.1) with
  | true =>
    have hTT : T = ([], 251) := by rw [← HT.out, if_pos hany]
    have HTT := Lib.hid hTT
    clear hTT hany HT
    go_wp2_with fail
    go_ret2
    exact ⟨by rw [HTT.out]; rfl, HK2.out⟩
  | false =>
    have hTT : T = (HC ++ [10] ++ linesA (ps.map (·.1)), 0) := by rw [← HT.out, hany]; rfl
    have HTT := Lib.hid hTT
    clear hTT hany HT
    obtain ⟨c0, c1, c2, c3, c4⟩ := blk5 HG2.out
    have hlt2 : w.heap.size < w2.heap.size := lt_of_heap HG2.out
    have hne2 : ¬ (w.heap.size = w2.heap.size) := by omega
    obtain ⟨S, hS⟩ : ∃ S : ByteArray, S = ⟨HC.toArray⟩ := ⟨_, rfl⟩
    have hSz : S.size ≤ 200 := by rw [str_size hS]; exact HHL.out
    have HS := Lib.hid hS
    rw [← hS] at HHD
    clear hS
    have hbd := bd_made w2
    have hb3 : Below w2.heap.size w2 (w2.alloc (.cells #[.pointer none, .slice none 0 0] 75)) := (Kept.allocd w2 _).toB
    have HBD := Lib.hid hbd
    have HB3 := Lib.hid hb3
    clear hbd hb3
    go_wp2_with fail
    generalize w2.alloc (.cells #[.pointer none, .slice none 0 0] 75) = W3 at *
    refine (HHD.out _ (HK2.out.trans (Kept.ofB HB3.out))).mono ?_
    rintro e w4 ⟨rfl, hk⟩
    have HBD4 := Lib.hid (HBD.out.kept hk)
    have HB4 := Lib.hid (HB3.out.trans (hk.toB.mono HB3.out.size))
    clear hk c0 c1 c2 c3 c4 HBD HB3
    have hsz4 := HB4.out.size
    have hst := bd_string w2.heap.size w2.heap.size [] (HC ++ [10]) (S ++ ⟨#[10]⟩) (by rw [HS.out]; exact str_app HC [10]) w4 HBD4.out (by simp) (by have := HHL.out; rw [List.length_append, List.length_singleton]; omega) hsz4
    have HST := Lib.hid hst
    clear hst
    go_wp2_with fail
    refine HST.out.mono ?_
    rintro e w5 ⟨rfl, hbd, hb⟩
    have HBD5 := Lib.hid hbd
    have HB5 := Lib.hid (HB4.out.trans hb)
    clear hbd hb HBD4 HB4 HST
    go_wp2_with fail
    go_loopw [20] (fun vi wr => ∃ k : Nat, k ≤ n ∧ vi = .int .i64 k ∧ Bld w2.heap.size w2.heap.size ((HC ++ [10]) ++ linesA ((ps.take k).map (·.1))) wr ∧ Below w2.heap.size w2 wr) (fun vi _ => n - (intOf vi).toNat)
    case atStart => exact ⟨0, Nat.zero_le _, rfl, by simpa [linesA] using HBD5.out, HB5.out⟩
    case round =>
      obtain ⟨k, hk, rfl, hbd, hb⟩ := hrel
      have HBDk := Lib.hid hbd
      have HBk := Lib.hid hb
      have hsz := hb.size
      clear hbd hb HBD5 HB5
      have hlk : (linesA ((ps.take k).map (·.1))).length ≤ 1200000 := by
        have := HAL.out k
        have h2 : ((ps.take k).map (·.1)).length ≤ 30 := by rw [List.length_map, List.length_take]; omega
        omega
      have HLK := Lib.hid hlk
      clear hlk
      by_cases hlt : k < n
      · have hltI : (k : Int) < (n : Int) := by omega
        have hil : k < ps.length := by have := HN.out; omega
        obtain ⟨p, hp⟩ : ∃ p, ps[k]? = some p := ⟨ps[k], List.getElem?_eq_getElem hil⟩
        have hpm := List.mem_of_getElem? hp
        have hkw := HK2.out.trans (Kept.ofB HBk.out)
        obtain ⟨ad, rfl, a0, a1, a2, a3, a4⟩ := (HDV.out.kept hkw).at hp
        have hbv := (HB.out p hpm).keptNo hkw
        have htk : linesA ((ps.take (k + 1)).map (·.1)) = linesA ((ps.take k).map (·.1)) ++ (lineD p.1 ++ [10]) := by rw [List.take_add_one, hp, List.map_append]; simp [linesA_snoc]
        have hline := HLN.out p hpm
        have hll := HLL.out p hpm
        obtain ⟨d, bv⟩ := p
        simp only at a0 a1 a2 a3 a4 hbv htk hline hll
        obtain ⟨bp, bc, rfl, _⟩ := hbv.parts
        generalize lineD d = L at *
        obtain ⟨A, hA⟩ : ∃ A : ByteArray, A = ⟨L.toArray⟩ := ⟨_, rfl⟩
        have hAz : A.size ≤ 36200 := by rw [str_size hA]; exact hll
        rw [← hA] at hline
        have hk6 := hkw.alloc (.cells #[.int .i64 d.kind, .int .i64 d.a, .int .i64 d.n, .int .u64 d.draw, .slice bp d.b.length bc] 36)
        have hbd6 := HBDk.out.kept (Kept.allocd wr (.cells #[.int .i64 d.kind, .int .i64 d.a, .int .i64 d.n, .int .u64 d.draw, .slice bp d.b.length bc] 36))
        have hb6 := HBk.out.trans ((Kept.allocd wr (.cells #[.int .i64 d.kind, .int .i64 d.a, .int .i64 d.n, .int .u64 d.draw, .slice bp d.b.length bc] 36)).toB.mono hsz)
        have hbv6 := hbv.keptNo (Kept.allocd wr (.cells #[.int .i64 d.kind, .int .i64 d.a, .int .i64 d.n, .int .u64 d.draw, .slice bp d.b.length bc] 36))
        have HA := Lib.hid hA
        have HTK := Lib.hid htk
        have HLI := Lib.hid hline
        have HLL2 := Lib.hid hll
        have HK6 := Lib.hid hk6
        have HBD6 := Lib.hid hbd6
        have HB6 := Lib.hid hb6
        have HBV6 := Lib.hid hbv6
        clear hp hpm hkw hbv htk hline hll hA hk6 hbd6 hb6 hbv6 hil
        go_wp2_with fail
        generalize wr.alloc (.cells #[.int .i64 d.kind, .int .i64 d.a, .int .i64 d.n, .int .u64 d.draw, .slice bp d.b.length bc] 36) = W6 at *
        refine (HLI.out _ _ HK6.out ⟨_, rfl, HBV6.out⟩).mono ?_
        rintro e w7 ⟨rfl, hk7⟩
        have hb7 := HB6.out.trans (hk7.toB.mono HB6.out.size)
        have hst := bd_string w2.heap.size w2.heap.size _ (L ++ [10]) (A ++ ⟨#[10]⟩) (by rw [HA.out]; exact str_app L [10]) w7 (HBD6.out.kept hk7) (by have := HHL.out; have := HLK.out; simp only [List.length_append, List.length_singleton]; omega) (by have := HLL2.out; rw [List.length_append, List.length_singleton]; omega) hb7.size
        have HB7 := Lib.hid hb7
        have HST := Lib.hid hst
        clear hk7 hst hb7 a0 a1 a2 a3 a4
        go_wp2_with fail
        refine HST.out.mono ?_
        rintro e w8 ⟨rfl, hbd8, hb8⟩
        have HBD8 := Lib.hid hbd8
        have HB8 := Lib.hid (HB7.out.trans hb8)
        clear hbd8 hb8
        go_wp2_with fail
        have hbl := bd_len _ _ _ _ HBD8.out
        obtain ⟨mm, hmm⟩ : ∃ mm : Nat, mm = (HC ++ [10] ++ linesA ((ps.take k).map (fun p : Deed × Value => p.1)) ++ (L ++ [(10 : UInt8)]) : Bs).length := ⟨_, rfl⟩
        rw [← hmm] at hbl
        have hlen8 : ¬ ((67108864 : Int) < (mm : Int)) := by
          have := HHL.out
          have := HLK.out
          have := HLL2.out
          rw [hmm]
          simp only [List.length_append, List.length_singleton]
          omega
        clear hmm
        refine hbl.mono ?_
        rintro e w9 ⟨rfl, rfl⟩
        clear hbl
        go_wp2_with fail
        go_roundw
        case rel => exact ⟨k + 1, by omega, by go_num, by rw [HTK.out, ← List.append_assoc]; exact HBD8.out, HB8.out⟩
        case measure => simp [intOf]; omega
      · obtain rfl : k = n := by omega
        have htt : ps.take k = ps := List.take_of_length_le (by have := HN.out; omega)
        have htx := bd_text w2.heap.size w2.heap.size _ wr HBDk.out hsz
        rw [htt] at htx
        obtain ⟨X, hX⟩ : ∃ X : ByteArray, X = ⟨(HC ++ [(10 : UInt8)] ++ linesA (ps.map (fun p : Deed × Value => p.1)) : Bs).toArray⟩ := ⟨_, rfl⟩
        rw [← hX] at htx
        have HX := Lib.hid hX
        have HTX := Lib.hid htx
        clear htx htt hX
        go_wp2_with fail
        refine HTX.out.mono ?_
        rintro e w3 ⟨rfl, hb3⟩
        go_wp2_with fail
        go_ret2
        exact ⟨by rw [HTT.out]; exact congrArg (fun s => Ending.returned (.tuple #[.string s, .int .i64 0])) HX.out, HK2.out.trans (Kept.ofB (HBk.out.trans hb3))⟩
end Go.Proofs.YtdinkdmkbfbjbaaDoor
namespace Go.Proofs.YtdinkdmkbfbjbaaDoor
open Go.RowKit

def pieces (c : UInt8) (l : Bs) : List Bs := Lib.splitK [c] 0 (Lib.count l [c]) l

theorem index_app {c : UInt8} {x : Bs} (h : ∀ b ∈ x, b ≠ c) (y : Bs) : Lib.index (x ++ c :: y) [c] = (x.length : Int) := by
  induction x with
  | nil => rw [List.nil_append, index_one_cons, if_pos rfl]; rfl
  | cons b x ih =>
    have hb := h b (by simp)
    have hi := ih (fun d hd => h d (by simp [hd]))
    rw [List.cons_append, index_one_cons, if_neg hb, hi, if_neg (by omega)]
    simp
theorem index_no {c : UInt8} {x : Bs} (h : ∀ b ∈ x, b ≠ c) : Lib.index x [c] = -1 := by
  induction x with
  | nil => rfl
  | cons b x ih =>
    have hb := h b (by simp)
    rw [index_one_cons, if_neg hb, ih (fun d hd => h d (by simp [hd])), if_pos rfl]
theorem pieces_hit {c : UInt8} {x : Bs} (h : ∀ b ∈ x, b ≠ c) (y : Bs) : pieces c (x ++ c :: y) = x :: pieces c y := by
  unfold pieces
  have e : Lib.count (x ++ c :: y) [c] = Lib.count y [c] + 1 := by
    rw [Lib.count_one, Lib.count_one, List.count_append, List.count_cons_self]
    have : List.count c x = 0 := List.count_eq_zero.2 (fun hm => h c hm rfl)
    omega
  rw [e, Lib.splitK, index_app h]
  have h0 : (((x.length : Nat) : Int) == -1) = false := by rw [beq_eq_false_iff_ne]; omega
  rw [h0]
  simp
theorem pieces_miss {c : UInt8} {x : Bs} (h : ∀ b ∈ x, b ≠ c) : pieces c x = [x] := by
  unfold pieces
  have e : Lib.count x [c] = 0 := by rw [Lib.count_one]; exact List.count_eq_zero.2 (fun hm => h c hm rfl)
  rw [e]; rfl

def confOf (f : Nat → Int) : Conf := ⟨f 0, f 1, f 2, f 3, f 4⟩
/-- What the program looks at. -/
noncomputable def candS (s : Bs) : Conf := confOf fun i => (parseV ((pieces 32 s).getD (i + 1) [])).1
/-- What the document looks at. -/
def candT (s : Bs) : Conf := confOf fun i => (refV ((wordsF 5 [] s).getD (i + 1) [])).1
noncomputable def settingsP (s : Bs) : Option Conf := if (pieces 32 s).length = 6 ∧ headC (candS s) = s then some (candS s) else none
def settingsR (s : Bs) : Option Conf := if headC (candT s) = s then some (candT s) else none

theorem candS_fits (s : Bs) : (candS s).Fits := ⟨parseV_in _, parseV_in _, parseV_in _, parseV_in _, parseV_in _⟩
theorem candT_fits (s : Bs) : (candT s).Fits := ⟨refV_in _, refV_in _, refV_in _, refV_in _, refV_in _⟩

theorem head_form (c : Conf) : headC c = [119, 111, 114, 108, 100] ++ 32 :: (Lib.itoa c.c0 ++ 32 :: (Lib.itoa c.c1 ++ 32 :: (Lib.itoa c.c2 ++ 32 :: (Lib.itoa c.c3 ++ 32 :: Lib.itoa c.c4)))) := by
  simp [headC, headA, Conf.list]
theorem pieces_head (c : Conf) : pieces 32 (headC c) = [[119, 111, 114, 108, 100], Lib.itoa c.c0, Lib.itoa c.c1, Lib.itoa c.c2, Lib.itoa c.c3, Lib.itoa c.c4] := by
  rw [head_form, pieces_hit (by decide), pieces_hit (itoa_32 _), pieces_hit (itoa_32 _), pieces_hit (itoa_32 _), pieces_hit (itoa_32 _), pieces_miss (itoa_32 _)]
theorem words_head (c : Conf) : wordsF 5 [] (headC c) = [[119, 111, 114, 108, 100], Lib.itoa c.c0, Lib.itoa c.c1, Lib.itoa c.c2, Lib.itoa c.c3, Lib.itoa c.c4] := by
  rw [head_form, wordsF_hit (by decide), wordsF_hit (itoa_32 _), wordsF_hit (itoa_32 _), wordsF_hit (itoa_32 _), wordsF_hit (itoa_32 _), wordsF_zero]
  simp
theorem candS_head (c : Conf) (h : c.Fits) : candS (headC c) = c := by
  obtain ⟨h0, h1, h2, h3, h4⟩ := h
  unfold candS confOf
  rw [pieces_head]
  obtain ⟨c0, c1, c2, c3, c4⟩ := c
  simp only at h0 h1 h2 h3 h4
  simp [parseV_itoa _ h0.1 h0.2, parseV_itoa _ h1.1 h1.2, parseV_itoa _ h2.1 h2.2, parseV_itoa _ h3.1 h3.2, parseV_itoa _ h4.1 h4.2]
theorem candT_head (c : Conf) (h : c.Fits) : candT (headC c) = c := by
  obtain ⟨h0, h1, h2, h3, h4⟩ := h
  unfold candT confOf
  rw [words_head]
  obtain ⟨c0, c1, c2, c3, c4⟩ := c
  simp only at h0 h1 h2 h3 h4
  simp [ref_itoa _ h0.1 h0.2, ref_itoa _ h1.1 h1.2, ref_itoa _ h2.1 h2.2, ref_itoa _ h3.1 h3.2, ref_itoa _ h4.1 h4.2]
theorem settings_head (c : Conf) (h : c.Fits) : settingsP (headC c) = some c := by
  unfold settingsP
  rw [candS_head c h, if_pos ⟨by rw [pieces_head]; rfl, rfl⟩]
theorem settingsP_some {s : Bs} {c : Conf} (h : settingsP s = some c) : c.Fits ∧ headC c = s := by
  unfold settingsP at h
  split at h
  · rename_i hc
    cases h
    exact ⟨candS_fits s, hc.2⟩
  · cases h
theorem settingsR_some {s : Bs} {c : Conf} (h : settingsR s = some c) : c.Fits ∧ headC c = s := by
  unfold settingsR at h
  split at h
  · rename_i hc
    cases h
    exact ⟨candT_fits s, hc⟩
  · cases h
/-- Both are one. -/
theorem settingsR_P (s : Bs) : settingsR s = settingsP s := by
  cases hp : settingsP s with
  | some c =>
    obtain ⟨hf, rfl⟩ := settingsP_some hp
    unfold settingsR
    rw [candT_head c hf, if_pos rfl]
  | none =>
    cases hr : settingsR s with
    | none => rfl
    | some c =>
      obtain ⟨hf, rfl⟩ := settingsR_some hr
      rw [settings_head c hf] at hp
      cases hp

/-! Lines. -/

/-- Whole lines, and what is behind the last one. -/
def linesF : Bs → Bs → List Bs × Bs
  | cur, [] => ([], cur)
  | cur, c :: r => if c = 10 then (cur :: (linesF [] r).1, (linesF [] r).2) else linesF (cur ++ [c]) r
def linesS (s : Bs) : List Bs × Bs := linesF [] s

theorem linesF_cut : ∀ (s cur : Bs), linesF cur s = if (cutB 10 s).2.2 = true then ((cur ++ (cutB 10 s).1) :: (linesS (cutB 10 s).2.1).1, (linesS (cutB 10 s).2.1).2) else ([], cur ++ s)
  | [], cur => by simp [linesF, cutB]
  | c :: r, cur => by
    rw [linesF, cutB]
    by_cases h : c = 10
    · simp [h, linesS]
    · rw [if_neg h, if_neg h, linesF_cut r]
      simp
theorem linesS_cut (s : Bs) : linesS s = if (cutB 10 s).2.2 = true then ((cutB 10 s).1 :: (linesS (cutB 10 s).2.1).1, (linesS (cutB 10 s).2.1).2) else ([], s) := by
  unfold linesS
  rw [linesF_cut]
  simp [linesS]

/-- Deeds of lines; or which line is the first that has none. -/
noncomputable def goOver : Nat → List Bs → List Deed → Except Nat (List Deed)
  | _, [], ds => .ok ds
  | n, l :: ls, ds => match parseP l with | some d => goOver (n + 1) ls (ds ++ [d]) | none => .error n
/-- A script of a text; or which line is wrong. -/
noncomputable def readD (s : Bs) : Except Nat (Conf × List Deed) :=
  match (linesS s).1 with
  | [] => .error 0
  | l :: ls => match settingsP l with
    | none => .error 0
    | some c => match goOver 1 ls [] with
      | .error n => .error n
      | .ok ds => if (linesS s).2 = [] then .ok (c, ds) else .error (ls.length + 1)
end Go.Proofs.YtdinkdmkbfbjbaaDoor
namespace Go.Proofs.YtdinkdmkbfbjbaaDoor
open Go.RowKit
attribute [local go_sem] fold_part fold_some fold_some' partAt_zero

theorem psplit (l : Bs) (hl : l.length ≤ 1000000000) (c : UInt8) (w : World) (hM : Mx w) :
    Calls Tryd.prog 68 #[.string ⟨l.toArray⟩, .string ⟨#[c]⟩] w fun e w' => e = .returned (.slice (some ⟨w.heap.size, 0, none⟩) (pieces c l).length (pieces c l).length) ∧ w' = w.alloc (.cells ((pieces c l).map strV).toArray 9) := by
  obtain ⟨m, hm⟩ := hM
  refine (Tryd.strings_Split ⟨l.toArray⟩ ⟨#[c]⟩ m w (by rw [str_size rfl]; omega) hm (Nat.le_refl 1)).mono ?_
  have e1 : (Lib.splitB ⟨#[c]⟩ 0 (Lib.countB ⟨l.toArray⟩ ⟨#[c]⟩) ⟨l.toArray⟩).map (·.data.toList) = pieces c l := by rw [Lib.splitB_data]; rfl
  have e2 : (Lib.splitB ⟨#[c]⟩ 0 (Lib.countB ⟨l.toArray⟩ ⟨#[c]⟩) ⟨l.toArray⟩).length = Lib.countB ⟨l.toArray⟩ ⟨#[c]⟩ + 1 := Lib.splitB_all ⟨#[c]⟩ (Nat.le_refl 1) 0 _ _ rfl
  have e3 : (Lib.splitB ⟨#[c]⟩ 0 (Lib.countB ⟨l.toArray⟩ ⟨#[c]⟩) ⟨l.toArray⟩).map Value.string = (pieces c l).map strV := by
    rw [← e1, List.map_map]
    refine List.map_congr_left fun x _ => ?_
    show Value.string x = Value.string ⟨x.data.toList.toArray⟩
    rw [Array.toArray_toList]
  have e4 : (pieces c l).length = Lib.countB ⟨l.toArray⟩ ⟨#[c]⟩ + 1 := by rw [← e1, List.length_map, e2]
  rw [e3, ← e4]
  rintro e w' ⟨rfl, rfl⟩
  exact ⟨rfl, rfl⟩

def zeroConf : Conf := ⟨0, 0, 0, 0, 0⟩
/-- The first i of them. -/
def upTo (c : Conf) (i : Nat) : Array Value := #[.int .i64 (if 0 < i then c.c0 else 0), .int .i64 (if 1 < i then c.c1 else 0), .int .i64 (if 2 < i then c.c2 else 0), .int .i64 (if 3 < i then c.c3 else 0), .int .i64 (if 4 < i then c.c4 else 0)]
def Conf.at (c : Conf) (i : Nat) : Int := c.list.getD i 0
theorem upTo_next (c : Conf) (i : Nat) (h : i < 5) : (upTo c i).setIfInBounds i (.int .i64 (c.at i)) = upTo c (i + 1) := by
  rcases (by omega : i = 0 ∨ i = 1 ∨ i = 2 ∨ i = 3 ∨ i = 4) with rfl | rfl | rfl | rfl | rfl <;> rfl

theorem heap_own5_ne {w : World} {o : Option Obj} {g k : Nat} (h : w.heap[k]? = o) (hne : ¬ (k = g)) (v0 v1 v2 v3 v4 : Value) :
    (((((w.setCell ⟨g, 0, none⟩ v0).setCell ⟨g, 1, none⟩ v1).setCell ⟨g, 2, none⟩ v2).setCell ⟨g, 3, none⟩ v3).setCell ⟨g, 4, none⟩ v4).heap[k]? = o :=
  heap_set_ne (heap_set_ne (heap_set_ne (heap_set_ne (heap_set_ne h hne) hne) hne) hne) hne

/-- What 'settings' leaves. -/
def SetEnd (s : Bs) (w : World) (e : Ending) (w' : World) : Prop :=
  Kept NoBlock w w' ∧ ∃ (c : Conf) (ok : Bool), e = .returned (.tuple #[confV c, .bool ok]) ∧ (match settingsP s with | some d => ok = true ∧ c = d | none => ok = false)

theorem set_some {s : Bs} {c : Conf} {w w' : World} (h : settingsP s = some c) (hk : Kept NoBlock w w') : SetEnd s w (.returned (.tuple #[confV c, .bool true])) w' := ⟨hk, c, true, rfl, by rw [h]; exact ⟨rfl, rfl⟩⟩
theorem set_none {s : Bs} {c : Conf} {w w' : World} (h : settingsP s = none) (hk : Kept NoBlock w w') : SetEnd s w (.returned (.tuple #[confV c, .bool false])) w' := ⟨hk, c, false, rfl, by rw [h]⟩

theorem splitK_len (sep : Bs) : ∀ (k : Nat) (s x : Bs), x ∈ Lib.splitK sep 0 k s → x.length ≤ s.length
  | 0, s, x, h => by
    obtain rfl := List.mem_singleton.1 h
    exact Nat.le_refl _
  | k + 1, s, x, h => by
    rw [Lib.splitK] at h
    split at h
    · obtain rfl := List.mem_singleton.1 h
      exact Nat.le_refl _
    · rcases List.mem_cons.1 h with rfl | h
      · rw [List.length_take]; omega
      · have := splitK_len sep k _ x h
        rw [List.length_drop] at this
        omega
theorem pieces_len {c : UInt8} {s x : Bs} (h : x ∈ pieces c s) : x.length ≤ s.length := splitK_len _ _ _ _ h

set_option maxRecDepth 100000 in
set_option maxHeartbeats 3200000 in
theorem psettings (s : Bs) (hs : s.length ≤ 9000) (w : World) (hV : Vs w) (hM : Mx w) :
    Calls Tryd.prog 50 #[.string ⟨s.toArray⟩] w (SetEnd s w) := by
  have hsp := fun W (hk : Kept NoBlock w W) => psplit s (by omega) 32 W (hM.kept hk)
  have hwh := fun x (hx : x ∈ pieces 32 s) W (hk : Kept NoBlock w W) => pwhole x (by have := pieces_len hx; omega) W (hV.below hk.toB)
  have hhd := fun W (hk : Kept NoBlock w W) => phead (candS s) (candS_fits s) W (hV.below hk.toB)
  have hsome : (pieces 32 s).length = 6 → headC (candS s) = s → settingsP s = some (candS s) := fun h1 h2 => if_pos ⟨h1, h2⟩
  have hnone : (pieces 32 s).length ≠ 6 ∨ headC (candS s) ≠ s → settingsP s = none := fun h => if_neg (fun h2 => h.elim (fun a => a h2.1) (fun a => a h2.2))
  have hat : ∀ i, i < 5 → (candS s).at i = (parseV ((pieces 32 s).getD (i + 1) [])).1 := fun i hi => by
    rcases (by omega : i = 0 ∨ i = 1 ∨ i = 2 ∨ i = 3 ∨ i = 4) with rfl | rfl | rfl | rfl | rfl <;> rfl
  obtain ⟨S, hS⟩ : ∃ S : ByteArray, S = ⟨s.toArray⟩ := ⟨_, rfl⟩
  rw [← hS] at hsp ⊢
  have HSP := Lib.hid hsp
  have HWH := Lib.hid hwh
  have HHD := Lib.hid hhd
  have HSOME := Lib.hid hsome
  have HNONE := Lib.hid hnone
  have HAT := Lib.hid hat
  have HS := Lib.hid hS
  clear hsp hwh hhd hsome hnone hat hS hs hV hM
  generalize hP : pieces 32 s = P at *
  clear hP
  generalize candS s = C at *
  have HK1 := Lib.hid (Kept.allocd w (.cells #[.int .i64 0, .int .i64 0, .int .i64 0, .int .i64 0, .int .i64 0] 52))
  have HG1 := Lib.hid (heap_alloc_new w (.cells #[.int .i64 0, .int .i64 0, .int .i64 0, .int .i64 0, .int .i64 0] 52))
  go_enter Tryd.func50, Tryd.ntmps50
  go_wp2_with fail
  generalize w.alloc (.cells #[.int .i64 0, .int .i64 0, .int .i64 0, .int .i64 0, .int .i64 0] 52) = W1 at *
  refine (HSP.out _ HK1.out).mono ?_
  rintro e w2 ⟨rfl, rfl⟩
  have HK2 := Lib.hid (HK1.out.alloc (.cells (P.map strV).toArray 9))
  have HG2 := Lib.hid ((Kept.allocd W1 (.cells (P.map strV).toArray 9)).heap HG1.out (fun h => h))
  have HR2 := Lib.hid (heap_alloc_new W1 (.cells (P.map strV).toArray 9))
  have hw1 : w.heap.size < W1.heap.size := lt_of_heap HG1.out
  generalize W1.alloc (.cells (P.map strV).toArray 9) = W2 at *
  by_cases h6 : P.length = 6
  · obtain ⟨g, hg⟩ : ∃ g, g = W1.heap.size := ⟨_, rfl⟩
    rw [← hg] at HR2 hw1 ⊢
    have hgl : g < W2.heap.size := lt_of_heap HR2.out
    rw [h6]
    clear HG1 HK1 hg
    have HK3 := Lib.hid (HK2.out.alloc (.cells #[.int .i64 0, .int .i64 0, .int .i64 0, .int .i64 0, .int .i64 0] 122))
    have HG3 := Lib.hid ((Kept.allocd W2 (.cells #[.int .i64 0, .int .i64 0, .int .i64 0, .int .i64 0, .int .i64 0] 122)).heap HG2.out (fun h => h))
    have HR3 := Lib.hid ((Kept.allocd W2 (.cells #[.int .i64 0, .int .i64 0, .int .i64 0, .int .i64 0, .int .i64 0] 122)).heap HR2.out (fun h => h))
    have HA3 := Lib.hid (heap_alloc_new W2 (.cells #[.int .i64 0, .int .i64 0, .int .i64 0, .int .i64 0, .int .i64 0] 122))
    go_wp2_with fail
    generalize W2.alloc (.cells #[.int .i64 0, .int .i64 0, .int .i64 0, .int .i64 0, .int .i64 0] 122) = W3 at *
    generalize W2.heap.size = ga at *
    have hne1 : ¬ (g = ga) := by omega
    have hne2 : ¬ (w.heap.size = ga) := by omega
    go_loopw [14] (fun vi wr => ∃ i : Nat, vi = .int .i64 i ∧ i ≤ 5 ∧ wr.heap[ga]? = some (.cells (upTo C i) 122 (0, 0)) ∧ Kept (fun k => k = ga) W3 wr) (fun vi _ => 5 - (intOf vi).toNat)
    case atStart => exact ⟨0, rfl, by decide, HA3.out, Kept.refl _ _⟩
    case round =>
      obtain ⟨i, rfl, hi, ha, hk⟩ := hrel
      have HA := Lib.hid ha
      have HK := Lib.hid hk
      have HKw := Lib.hid (Kept.trans' (S := NoBlock) HK3.out hk (fun k hk2 e => by subst e; omega))
      clear ha hk
      by_cases hlt : i < 5
      · have hltI : (i : Int) < 5 := by omega
        obtain ⟨x, hx⟩ : ∃ x, P[i + 1]? = some x := ⟨P[i + 1], List.getElem?_eq_getElem (by omega)⟩
        have hxm := List.mem_of_getElem? hx
        have hcx : wr.cell? ⟨g, i + 1, none⟩ = some (strV x) := cellB (HK.out.heap HR3.out hne1) (by simp [hx])
        have hat : (parseV x).1 = C.at i := by rw [HAT.out i hlt, List.getD_eq_getElem?_getD, hx]; rfl
        have hcall := HWH.out x hxm
        have hup := upTo_next C i hlt
        have hfz := fun j => frozenB HA.out j
        have hold : wr.cell? ⟨ga, i, none⟩ = some (.int .i64 0) := by
          refine cellB HA.out ?_
          rcases (by omega : i = 0 ∨ i = 1 ∨ i = 2 ∨ i = 3 ∨ i = 4) with rfl | rfl | rfl | rfl | rfl <;> rfl
        unfold strV at hcx
        generalize parseV x = PV at *
        generalize (⟨x.toArray⟩ : ByteArray) = X at *
        obtain ⟨p1, p2⟩ := PV
        simp only at hat hcall
        subst hat
        have HC := Lib.hid hcall
        have HUP := Lib.hid hup
        clear hx hxm hcall hup
        go_wp2_with fail
        refine (HC.out _ HKw.out).mono ?_
        rintro e w4 ⟨rfl, hk4⟩
        have ha4 := hk4.heap HA.out (fun h => h)
        have HA4 := Lib.hid ha4
        have HK4 := Lib.hid (Kept.trans (S := fun k => k = ga) HK.out hk4.anyS)
        have hold4 : w4.cell? ⟨ga, i, none⟩ = some (.int .i64 0) := by
          refine cellB ha4 ?_
          rcases (by omega : i = 0 ∨ i = 1 ∨ i = 2 ∨ i = 3 ∨ i = 4) with rfl | rfl | rfl | rfl | rfl <;> rfl
        have hfz4 := fun j => frozenB ha4 j
        clear hk4 ha4 hcx hold hfz
        go_wp2_with fail
        go_roundw
        case rel =>
          refine ⟨i + 1, by go_num, by omega, ?_, HK4.out.setCell (p := ⟨ga, i, none⟩) (fun _ => rfl) _⟩
          rw [← HUP.out]
          exact heap_setCell_same HA4.out i _
        case measure => simp [intOf]; omega
      · obtain rfl : i = 5 := by omega
        have ha := HA.out
        rw [show upTo C 5 = #[.int .i64 C.c0, .int .i64 C.c1, .int .i64 C.c2, .int .i64 C.c3, .int .i64 C.c4] from rfl] at ha
        obtain ⟨a0, a1, a2, a3, a4⟩ := blk5 ha
        have hg1 := HK.out.heap HG3.out hne2
        have HKo := Lib.hid HKw.out
        have HG4 := Lib.hid ((Kept.allocd wr (.cells #[.int .i64 C.c0, .int .i64 C.c1, .int .i64 C.c2, .int .i64 C.c3, .int .i64 C.c4] 52)).heap hg1 (fun h => h))
        have HK4 := Lib.hid (HKw.out.alloc (.cells #[.int .i64 C.c0, .int .i64 C.c1, .int .i64 C.c2, .int .i64 C.c3, .int .i64 C.c4] 52))
        have HC4 := Lib.hid (heap_alloc_new wr (.cells #[.int .i64 C.c0, .int .i64 C.c1, .int .i64 C.c2, .int .i64 C.c3, .int .i64 C.c4] 52))
        have hlt2 : w.heap.size < wr.heap.size := lt_of_heap hg1
        clear ha hg1
        go_wp2_with fail
        clear a0 a1 a2 a3 a4
        generalize wr.alloc (.cells #[.int .i64 C.c0, .int .i64 C.c1, .int .i64 C.c2, .int .i64 C.c3, .int .i64 C.c4] 52) = W5 at *
        generalize wr.heap.size = gb at *
        have hne5 : ¬ (gb = w.heap.size) := by omega
        have hne6 : ¬ (w.heap.size = gb) := by omega
        refine wp_planC (fun W => W.heap[gb]? = some (.cells #[.int .i64 C.c0, .int .i64 C.c1, .int .i64 C.c2, .int .i64 C.c3, .int .i64 C.c4] 52 (0, 0))) 7 [.flt 0, .flt 3, .seg [1] 2, .flt 4, .seg [] 5] [6] (by kernel_rfl) (by kernel_rfl) (fun _ _ _ dst _ h => by cases dst <;> exact h) (fun _ _ h => h) HC4.out (fun q0 => ?_)
        simp only [wpPlanC, pick, List.filterMap_cons, List.filterMap_nil, List.getElem?_cons_succ, List.getElem?_cons_zero]
        iterate 2 (refine wpFloat_ex rfl ?_; apply Exists.intro; refine ⟨fun w' hw' => ?_, ?_⟩; (obtain ⟨u0, u1, u2, u3, u4⟩ := blk5 hw'; go_simp; first | rfl | exact ⟨rfl, rfl⟩); simp only [Act.put, List.setIfInBounds_toArray, List.set_cons_succ, List.set_cons_zero])
        obtain ⟨d0, d1, d2, d3, d4⟩ := blk5 HC4.out
        repeat (quiet_step (fail))
        refine wpQuiet_nil ?_
        rintro _ ⟨q1, rfl⟩
        go_wp2_with fail
        obtain ⟨T, hT⟩ : ∃ T : ByteArray, T = ⟨(headC C).toArray⟩ := ⟨_, rfl⟩
        have hhd := HHD.out
        rw [← hT] at hhd
        unfold confV at hhd
        refine (hhd _ (HK4.out.drewN _)).mono ?_
        rintro e w6 ⟨rfl, hk6⟩
        have HK6 := Lib.hid ((HK4.out.drewN (q0 + q1)).trans hk6)
        have HG6 := Lib.hid (hk6.heap (a := W5.drewN (q0 + q1)) HG4.out (fun h => h))
        have HC6 := Lib.hid (hk6.heap (a := W5.drewN (q0 + q1)) HC4.out (fun h => h))
        have HTT := Lib.hid hT
        clear hk6 d0 d1 d2 d3 d4 hhd hT HHD
        go_wp2_with fail
        refine Halt.mk ⟨.inr HC6.out, ?_⟩
        by_cases hL : headC C = s
        · have hTS : T = S := by rw [HTT.out, HS.out, hL]
          have HSM := Lib.hid (HSOME.out h6 hL)
          subst hTS
          clear hL HTT HSOME HNONE
          (refine wpFloat_ex rfl ?_; apply Exists.intro; refine ⟨fun w' hw' => ?_, ?_⟩; (go_simp; first | rfl | exact ⟨rfl, rfl⟩); simp only [Act.put, List.setIfInBounds_toArray, List.set_cons_succ, List.set_cons_zero])
          obtain ⟨z0, z1, z2, z3, z4⟩ := blk5 HG6.out
          have zf := fun i => frozenB HG6.out i
          go_wp2_with fail
          refine Halt.mk ⟨.inr (heap_own5_ne HC6.out hne5 _ _ _ _ _), ?_⟩
          repeat (quiet_step (fail))
          refine wpQuiet_nil ?_
          rintro _ ⟨q2, rfl⟩
          go_wp2_with fail
          refine bodyPost_ret (v := .tuple #[.agg #[.int .i64 C.c0, .int .i64 C.c1, .int .i64 C.c2, .int .i64 C.c3, .int .i64 C.c4], .bool true]) (results_cell_tmp (q := 3) (ty := 52) (ad := ⟨w.heap.size, 0, none⟩) rfl _ rfl (by go_simp)) rfl (set_some HSM.out ?_)
          exact (HK6.out.own5 (Nat.le_refl _) _ _ _ _ _).drewN _
        · have hse : ¬ (T = S) := fun h => hL (by rw [HTT.out, HS.out] at h; simpa using h)
          have hse' : (T.toList == S.toList) = false := by
            rw [beq_eq_false_iff_ne, Go.ByteArray.toList_eq, Go.ByteArray.toList_eq]
            exact fun h => hse (ByteArray.ext (Array.ext' h))
          have HSM := Lib.hid (HNONE.out (.inr hL))
          clear hL HTT HSOME HNONE
          (refine wpFloat_ex rfl ?_; apply Exists.intro; refine ⟨fun w' hw' => ?_, ?_⟩; (go_simp; first | rfl | exact ⟨rfl, rfl⟩); simp only [Act.put, List.setIfInBounds_toArray, List.set_cons_succ, List.set_cons_zero])
          obtain ⟨z0, z1, z2, z3, z4⟩ := blk5 HG6.out
          have zf := fun i => frozenB HG6.out i
          go_wp2_with fail
          refine Halt.mk ⟨.inr (heap_own5_ne HC6.out hne5 _ _ _ _ _), ?_⟩
          repeat (quiet_step (fail))
          refine wpQuiet_nil ?_
          rintro _ ⟨q2, rfl⟩
          go_wp2_with fail
          refine bodyPost_ret (v := .tuple #[.agg #[.int .i64 C.c0, .int .i64 C.c1, .int .i64 C.c2, .int .i64 C.c3, .int .i64 C.c4], .bool false]) (results_cell_tmp (q := 3) (ty := 52) (ad := ⟨w.heap.size, 0, none⟩) rfl _ rfl (by go_simp)) rfl (set_none HSM.out ?_)
          exact (HK6.out.own5 (Nat.le_refl _) _ _ _ _ _).drewN _
  · have h6I : ¬ ((P.length : Int) = 6) := by omega
    have HSM := Lib.hid (HNONE.out (.inl h6))
    generalize P.length = pn at *
    obtain ⟨z0, z1, z2, z3, z4⟩ := blk5 HG2.out
    have zf := fun i => frozenB HG2.out i
    go_wp2_with fail
    refine bodyPost_ret (v := .tuple #[.agg #[.int .i64 0, .int .i64 0, .int .i64 0, .int .i64 0, .int .i64 0], .bool false]) (results_cell_tmp (q := 3) (ty := 52) (ad := ⟨w.heap.size, 0, none⟩) rfl _ rfl (by go_simp)) rfl (set_none (c := zeroConf) HSM.out ?_)
    exact HK2.out.own5 (Nat.le_refl _) _ _ _ _ _
end Go.Proofs.YtdinkdmkbfbjbaaDoor
namespace Go.Proofs.YtdinkdmkbfbjbaaDoor
open Go.RowKit
attribute [local go_sem] fold_part fold_some fold_some' partAt_zero

theorem cutB_false {c : UInt8} : ∀ {l : Bs}, (cutB c l).2.2 = false → (cutB c l).1 = l ∧ (cutB c l).2.1 = []
  | [], _ => ⟨rfl, rfl⟩
  | x :: r, h => by
    rw [cutB] at h ⊢
    by_cases hx : x = c
    · rw [if_pos hx] at h; cases h
    · rw [if_neg hx] at h ⊢
      obtain ⟨h1, h2⟩ := cutB_false h
      exact ⟨by simp only; rw [h1], h2⟩
theorem cutB_shorter {c : UInt8} {l : Bs} (h : l ≠ []) : (cutB c l).2.1.length < l.length := by
  cases l with
  | nil => exact absurd rfl h
  | cons x r =>
    rw [cutB]
    split
    · exact Nat.lt_succ_self _
    · have := (cutB_len c r).2
      simp only [List.length_cons]
      omega

/-- All lines are this short. -/
def ShortL (s : Bs) : Prop := (∀ x ∈ (linesS s).1, x.length ≤ 9000) ∧ (linesS s).2.length ≤ 9000
theorem ShortL.cut {s : Bs} (h : ShortL s) : (cutB 10 s).1.length ≤ 9000 ∧ ShortL (cutB 10 s).2.1 := by
  obtain ⟨h1, h2⟩ := h
  rw [linesS_cut] at h1 h2
  cases hw : (cutB 10 s).2.2 with
  | true =>
    rw [hw, if_pos rfl] at h1 h2
    exact ⟨h1 _ (by simp), fun x hx => h1 x (by simp [hx]), h2⟩
  | false =>
    rw [hw] at h1 h2
    obtain ⟨e1, e2⟩ := cutB_false hw
    rw [e1, e2]
    exact ⟨h2, fun x hx => (by cases hx), by simp [linesS, linesF]⟩

/-- What is left of a text: its deeds, or the line that is wrong. -/
noncomputable def restD (n : Nat) (rest : Bs) (ds : List Deed) : Except Nat (List Deed) :=
  match goOver n (linesS rest).1 ds with
  | .error k => .error k
  | .ok es => if (linesS rest).2 = [] then .ok es else .error (n + (linesS rest).1.length)
theorem goOver_len : ∀ (L : List Bs) (n : Nat) (ds es : List Deed), goOver n L ds = .ok es → True := fun _ _ _ _ _ => trivial
theorem restD_nil (n : Nat) (ds : List Deed) : restD n [] ds = .ok ds := by simp [restD, linesS, linesF, goOver]
theorem restD_cut {n : Nat} {rest : Bs} {ds : List Deed} (h : rest ≠ []) :
    restD n rest ds = if (cutB 10 rest).2.2 = true then (match parseP (cutB 10 rest).1 with | some d => restD (n + 1) (cutB 10 rest).2.1 (ds ++ [d]) | none => .error n) else .error n := by
  unfold restD
  rw [linesS_cut]
  cases hw : (cutB 10 rest).2.2 with
  | true =>
    simp only [if_true, goOver]
    cases parseP (cutB 10 rest).1 with
    | none => rfl
    | some d =>
      simp only
      cases goOver (n + 1) (linesS (cutB 10 rest).2.1).1 (ds ++ [d]) with
      | error k => rfl
      | ok es => simp only [List.length_cons]; rw [show n + 1 + (linesS (cutB 10 rest).2.1).1.length = n + ((linesS (cutB 10 rest).2.1).1.length + 1) by omega]
  | false => simp [goOver, h]
theorem readD_cut (s : Bs) : readD s = if (cutB 10 s).2.2 = true then (match settingsP (cutB 10 s).1 with | some c => (match restD 1 (cutB 10 s).2.1 [] with | .ok ds => .ok (c, ds) | .error k => .error k) | none => .error 0) else .error 0 := by
  unfold readD
  rw [linesS_cut]
  cases hw : (cutB 10 s).2.2 with
  | true =>
    simp only [if_true]
    cases settingsP (cutB 10 s).1 with
    | none => rfl
    | some c =>
      simp only
      unfold restD
      cases goOver 1 (linesS (cutB 10 s).2.1).1 [] with
      | error k => rfl
      | ok es =>
        simp only
        split
        · rfl
        · rw [Nat.add_comm]
  | false => rfl

/-- Deeds with bytes of their own. -/
def TypL (w : World) (ps : List (Deed × Value)) : Prop := ∀ p ∈ ps, BytesV w p.2 p.1.b ∧ TypedB w p.2
theorem TypL.kept {w w' : World} {ps : List (Deed × Value)} (h : TypL w ps) (hk : Kept NoBlock w w') : TypL w' ps := fun p hp => ⟨(h p hp).1.keptNo hk, (h p hp).2.kept hk⟩
theorem TypL.bytes {w : World} {ps : List (Deed × Value)} (h : TypL w ps) : BsV w ps := fun p hp => (h p hp).1
/-- A row of deeds grows: no bytes lie in it. -/
theorem TypL.grown {w w' : World} {base : Nat} {v : Value} {ps qs : List (Deed × Value)} (h : TypL w ps) (hown : OwnD w base v qs) (hg : w.grownBy w' v.ownBlock) : TypL w' ps := by
  intro p hp
  obtain ⟨h1, h2⟩ := h p hp
  have hne : ∀ k, vblk p.2 = some k → some k ≠ v.ownBlock := fun k hk e => by
    obtain ⟨cs, fz, hc⟩ := h2 k hk
    rcases hown.2 with ⟨rfl, _⟩ | ⟨g, cap, cur, rfl, _, hgg, _⟩
    · cases e
    · obtain rfl : k = g := by simpa [Value.ownBlock] using e
      rw [hc] at hgg
      cases hgg
  have hk : Kept (fun k => some k = v.ownBlock) w w' := ⟨hg.os, hg.tape, hg.output, hg.size, fun k hk hn => hg.block k hk hn⟩
  exact ⟨h1.kept hk hne, fun k hk2 => by obtain ⟨cs, fz, hc⟩ := h2 k hk2; exact ⟨cs, fz, hk.heap hc (hne k hk2)⟩⟩

/-- What a Read leaves. -/
def ReadEnd (M : Except Nat (Conf × List Deed)) (w : World) (e : Ending) (w' : World) : Prop :=
  Kept NoBlock w w' ∧ match M with
  | .ok (c, ds) => ∃ (v : Value) (ps : List (Deed × Value)), e = .returned (.tuple #[confV c, v, .int .i64 0, .int .i64 0]) ∧ ps.map (·.1) = ds ∧ DeedsV w' v ps ∧ BsV w' ps
  | .error k => e = .returned (.tuple #[confV zeroConf, .slice none 0 0, .int .i64 k, .int .i64 251])

theorem results_cell_tmp3 {fn : Func} {p q1 q2 q3 : Tmp} {ty : TypeId} (h : fn.results = #[.cell p ty, .tmp q1, .tmp q2, .tmp q3]) (tmps : Array Value) {P : Program} {w : World} {ad : Addr} {v : Value}
    (hp : tmps.getD p undef = .pointer (some ad)) (hl : (loadVar ty ad).run P w = .ok v w) :
    (results fn tmps).run P w = .ok (.tuple #[v, tmps.getD q1 undef, tmps.getD q2 undef, tmps.getD q3 undef]) w := by
  rw [Array.getD_eq_getD_getElem?] at hp
  simp [results, h, Sem.run_bind, Result.andThen, hp, asAddr, hl]

theorem read_err {M : Except Nat (Conf × List Deed)} {k : Nat} {w w' : World} (h : M = .error k) (hk : Kept NoBlock w w') : ReadEnd M w (.returned (.tuple #[confV zeroConf, .slice none 0 0, .int .i64 k, .int .i64 251])) w' := by
  subst h; exact ⟨hk, rfl⟩
theorem read_ok {M : Except Nat (Conf × List Deed)} {c : Conf} {ds : List Deed} {v : Value} {ps : List (Deed × Value)} {w w' : World} (h : M = .ok (c, ds)) (hk : Kept NoBlock w w') (hm : ps.map (·.1) = ds) (hd : DeedsV w' v ps) (hb : BsV w' ps) :
    ReadEnd M w (.returned (.tuple #[confV c, v, .int .i64 0, .int .i64 0])) w' := by
  subst h; exact ⟨hk, v, ps, rfl, hm, hd, hb⟩

theorem OwnD.keptS {S : Nat → Prop} {w w' : World} {base : Nat} {v : Value} {ps : List (Deed × Value)} (h : OwnD w base v ps) (hk : Kept S w w') (hS : ∀ k, base ≤ k → ¬ S k) : OwnD w' base v ps := by
  refine ⟨h.1, ?_⟩
  rcases h.2 with hn | ⟨g, cap, cur, rfl, hb, hg, rest⟩
  · exact .inl hn
  · exact .inr ⟨g, cap, cur, rfl, hb, hk.heap hg (hS g hb), rest⟩
/-- Bytes do not lie in a block of another type. -/
theorem TypL.keptH {w w' : World} {ps : List (Deed × Value)} {H : Nat} {cs : Array Value} {T : TypeId} (h : TypL w ps) (hH : w.heap[H]? = some (.cells cs T (0, 0))) (hT : T ≠ 5) (hk : Kept (fun k => k = H) w w') : TypL w' ps := by
  intro p hp
  obtain ⟨h1, h2⟩ := h p hp
  have hne : ∀ k, vblk p.2 = some k → ¬ (k = H) := fun k hv e => by
    obtain ⟨cs', fz, hc⟩ := h2 k hv
    rw [e, hH] at hc
    cases hc
    exact hT rfl
  exact ⟨h1.kept hk hne, fun k hv => by obtain ⟨cs', fz, hc⟩ := h2 k hv; exact ⟨cs', fz, hk.heap hc (hne k hv)⟩⟩
end Go.Proofs.YtdinkdmkbfbjbaaDoor
namespace Go.Proofs.YtdinkdmkbfbjbaaDoor
open Go.RowKit
attribute [local go_sem] fold_part fold_some fold_some' partAt_zero

theorem lcutB (v : Value) (b : Bs) (w : World) (h : BytesV w v b) : Calls Tryd.prog 7 #[v] w fun e w' => ∃ u, e = .returned u ∧ BytesV w u (b.take 2000) ∧ w = w' ∧ vblk u = vblk v := by
  obtain ⟨ap, cap, rfl, hc, _⟩ := h.parts
  have HB := Lib.hid h
  clear h
  by_cases hl : 2000 < b.length
  · generalize hn : b.length = n at *
    have HN := Lib.hid hn
    clear hn
    go_enter Tryd.func7, Tryd.ntmps7
    go_wp2
    go_ret
    exact ⟨_, rfl, HB.out.front 2000 (by omega), rfl, (vblk_slice ap 2000 cap).trans (vblk_slice ap n cap).symm⟩
  · generalize hn : b.length = n at *
    have HN := Lib.hid hn
    clear hn
    go_enter Tryd.func7, Tryd.ntmps7
    go_wp2
    go_ret
    exact ⟨_, rfl, by rw [List.take_of_length_le (by rw [HN.out]; omega)]; exact HB.out, rfl, rfl⟩

/-- The same, its value told. -/
theorem lcutV (ap : Option Addr) (cap : Nat) (b : Bs) (w : World) (hc : b.length ≤ cap) : Calls Tryd.prog 7 #[.slice ap b.length cap] w fun e w' => e = .returned (.slice ap (b.take 2000).length cap) ∧ w' = w := by
  by_cases hl : 2000 < b.length
  · have e1 : (b.take 2000).length = 2000 := by rw [List.length_take]; omega
    rw [e1]
    generalize hn : b.length = n at *
    clear hn e1
    go_enter Tryd.func7, Tryd.ntmps7
    go_wp2
    go_ret
    exact ⟨rfl, rfl⟩
  · have e1 : (b.take 2000).length = b.length := by rw [List.length_take]; omega
    rw [e1]
    generalize hn : b.length = n at *
    clear hn e1
    go_enter Tryd.func7, Tryd.ntmps7
    go_wp2
    go_ret
    exact ⟨rfl, rfl⟩

theorem lcutT (l : Bs) (w : World) : Calls Tryd.prog 8 #[.string ⟨l.toArray⟩] w fun e w' => e = .returned (.string ⟨(l.take 2000).toArray⟩) ∧ w = w' := by
  obtain ⟨S, hS⟩ : ∃ S : ByteArray, S = ⟨l.toArray⟩ := ⟨_, rfl⟩
  have hSz := str_size hS
  have hx : S.extract 0 2000 = ⟨(l.take 2000).toArray⟩ := by rw [hS]; exact str_take l 2000
  rw [← hS]
  by_cases hl : 2000 < S.size
  · have hlI : (2000 : Int) < (S.size : Int) := by omega
    have HX := Lib.hid hx
    clear hS hSz hx
    go_enter Tryd.func8, Tryd.ntmps8
    go_wp2
    go_ret
    exact ⟨congrArg (fun s => Ending.returned (Value.string s)) HX.out, rfl⟩
  · have hlI : ¬ ((2000 : Int) < (S.size : Int)) := by omega
    have ht : S = ⟨(l.take 2000).toArray⟩ := by rw [List.take_of_length_le (by omega)]; exact hS
    have HT := Lib.hid ht
    clear hS hSz hx ht
    go_enter Tryd.func8, Tryd.ntmps8
    go_wp2
    go_ret
    exact ⟨congrArg (fun s => Ending.returned (Value.string s)) HT.out, rfl⟩

theorem conv_of {w : World} {ap : Option Addr} {n cap : Nat} {l : Bs} (h : BytesV w (.slice ap n cap) l) : (convert 22 9 (.slice ap n cap)).run Tryd.prog w = .ok (.string ⟨l.toArray⟩) w :=
  conv_bytes w 22 9 5 Tryd.underlying22 Tryd.underlying5 Tryd.underlying9 cap (RowV.holds h).1

set_option maxRecDepth 100000 in
set_option maxHeartbeats 1600000 in
theorem law_quotes (v : Value) (b0 l0 : Bs) (w : World) (hV : Vs w) (hM : Mx w) (h : BytesV w v b0) :
    Calls Tryd.prog 3 #[v, .string ⟨l0.toArray⟩] w fun e w' => e = .returned (.bool true) ∧ Kept NoBlock w w' := by
  have cb := lcutB v b0 w h
  have ct := lcutT l0 w
  generalize hb : b0.take 2000 = b at *
  generalize hl : l0.take 2000 = l at *
  have hbl : b.length ≤ 2000 := by rw [← hb, List.length_take]; omega
  have hll : l.length ≤ 2000 := by rw [← hl, List.length_take]; omega
  have c1 := fun W => punq l (by omega) W
  have c2 := fun W => runq l (by omega) W
  have c3 := fun u W (h : BytesV W u b) => pquote u b W h (by omega)
  have c4 := fun u W (h : BytesV W u b) => rquote u b W h (by omega)
  have c5 := fun W (hk : Kept NoBlock w W) => lalive W (hV.below hk.toB) (hM.kept hk)
  obtain ⟨ap0, cap0, rfl, _, _⟩ := h.parts
  generalize (⟨l0.toArray⟩ : ByteArray) = S0 at *
  generalize (⟨l.toArray⟩ : ByteArray) = S at *
  generalize (⟨(quote b).toArray⟩ : ByteArray) = Q at *
  generalize b0.length = n0 at *
  generalize unq l = M at *
  have C1 := Lib.hid c1
  have C2 := Lib.hid c2
  have C3 := Lib.hid c3
  have C4 := Lib.hid c4
  have C5 := Lib.hid c5
  have CB := Lib.hid cb
  have CT := Lib.hid ct
  clear c1 c2 c3 c4 c5 cb ct hb hl hbl hll hV hM h
  go_enter Tryd.func3, Tryd.ntmps3
  go_wp2_with fail
  refine CB.out.mono ?_
  rintro e w1 ⟨u, rfl, hu, rfl, _⟩
  have HU := Lib.hid hu
  obtain ⟨ap1, cap1, rfl, _⟩ := hu.parts
  clear hu
  go_wp2_with fail
  refine CT.out.mono ?_
  rintro e w1 ⟨rfl, rfl⟩
  go_wp2_with fail
  refine (C1.out _).mono ?_
  rintro e w1 ⟨hk1, he1⟩
  have HK1 := Lib.hid hk1
  clear hk1
  cases M with
  | error n =>
    obtain rfl := he1
    go_wp2_with fail
    refine (C2.out _).mono ?_
    rintro e w2 ⟨hk2, rfl⟩
    have HK2 := Lib.hid (HK1.out.trans hk2)
    clear hk2
    go_wp2_with fail
    refine (C3.out _ _ (HU.out.keptNo HK2.out)).mono ?_
    rintro e w3 ⟨rfl, hk3⟩
    have HK3 := Lib.hid (HK2.out.trans hk3)
    clear hk3
    go_wp2_with fail
    refine (C4.out _ _ (HU.out.keptNo HK3.out)).mono ?_
    rintro e w4 ⟨rfl, hk4⟩
    have HK4 := Lib.hid (HK3.out.trans hk4)
    clear hk4
    have e1 := conv_of (BytesV.nil w4)
    go_wp2_with fail
    refine (C5.out _ HK4.out).mono ?_
    rintro e w5 ⟨rfl, hk5⟩
    clear e1
    go_wp2_with fail
    go_ret
    exact ⟨rfl, HK4.out.trans hk5⟩
  | ok x =>
    obtain ⟨v1, rfl, ho1⟩ := he1
    obtain ⟨ap3, cap3, rfl, _⟩ := ho1.bytes.parts
    have HO1 := Lib.hid ho1
    clear ho1
    go_wp2_with fail
    refine (C2.out _).mono ?_
    rintro e w2 ⟨hk2, v2, rfl, ho2⟩
    obtain ⟨ap4, cap4, rfl, _⟩ := ho2.bytes.parts
    have HO2 := Lib.hid ho2
    have HO1b := Lib.hid (HO1.out.kept hk2)
    have HK2 := Lib.hid (HK1.out.trans hk2)
    clear hk2 ho2
    go_wp2_with fail
    refine (C3.out _ _ (HU.out.keptNo HK2.out)).mono ?_
    rintro e w3 ⟨rfl, hk3⟩
    have HO1c := Lib.hid (HO1b.out.kept hk3)
    have HO2c := Lib.hid (HO2.out.kept hk3)
    have HK3 := Lib.hid (HK2.out.trans hk3)
    clear hk3
    go_wp2_with fail
    refine (C4.out _ _ (HU.out.keptNo HK3.out)).mono ?_
    rintro e w4 ⟨rfl, hk4⟩
    have hb1 := (HO1c.out.kept hk4).bytes
    have hb2 := (HO2c.out.kept hk4).bytes
    have HK4 := Lib.hid (HK3.out.trans hk4)
    clear hk4
    have e1 := conv_of hb1
    have e2 := conv_of hb2
    generalize (⟨x.toArray⟩ : ByteArray) = X at *
    clear hb1 hb2 HO1 HO1b HO1c HO2 HO2c C1 C2
    generalize x.length = m at *
    go_wp2_with fail
    refine (C5.out _ HK4.out).mono ?_
    rintro e w5 ⟨rfl, hk5⟩
    clear e1 e2
    go_wp2_with fail
    go_ret
    exact ⟨rfl, HK4.out.trans hk5⟩
end Go.Proofs.YtdinkdmkbfbjbaaDoor
namespace Go.Proofs.YtdinkdmkbfbjbaaDoor
open Go.RowKit
attribute [local go_sem] fold_part fold_some fold_some' partAt_zero

theorem textD_good {d : Deed} (h : badT d = false) : textD d = (lineD d, 0) := by
  unfold badT at h
  have h2 : (textD d).2 = 0 := by simpa using h
  unfold textD at h2 ⊢
  split
  · rename_i hc; rw [if_pos hc] at h2; cases h2
  · rename_i hc
    rw [if_neg hc] at h2
    split
    · rfl
    · rename_i hb; rw [if_neg hb] at h2; cases h2
theorem textD_bad {d : Deed} (h : badT d = true) : (textD d).2 = 251 := by
  rcases textD_code d with h2 | h2
  · unfold badT at h; rw [h2] at h; simp at h
  · exact h2

set_option maxRecDepth 100000 in
set_option maxHeartbeats 3200000 in
theorem rprint (c : Conf) (hc : c.Fits) (v : Value) (ps : List (Deed × Value)) (w : World) (h : DeedsV w v ps) (hb : BsV w ps) (hf : FitsL ps) (hlen : ps.length ≤ 30) :
    Calls Tryd.prog 22 #[confV c, v] w fun e w' => e = .returned (.tuple #[.string ⟨(printD c (ps.map (·.1))).1.toArray⟩, .int .i64 (printD c (ps.map (·.1))).2]) ∧ Kept NoBlock w w' := by
  have hDV := h
  obtain ⟨ap, cap, rfl, hH, hcap, _⟩ := h
  have hhd := fun W => rhead c hc W
  have htx := fun p (hp : p ∈ ps) v W (hv : DeedV W v p.1) => rtext v p.1 W hv (hf p hp)
  have hll := fun p (hp : p ∈ ps) => lineD_len (hf p hp)
  have hal := fun i => linesA_len ((ps.take i).map (·.1)) (fun d hd => by obtain ⟨p, hp, rfl⟩ := List.mem_map.1 hd; exact hf p (List.mem_of_mem_take hp))
  have hhl := headC_len hc
  generalize hT : printD c (ps.map (·.1)) = T
  unfold printD at hT
  rw [← any_fst] at hT
  have HHD := Lib.hid hhd
  have HTX := Lib.hid htx
  have HLL := Lib.hid hll
  have HAL := Lib.hid hal
  have HHL := Lib.hid hhl
  have HT := Lib.hid hT
  have HDV := Lib.hid hDV
  have HB := Lib.hid hb
  obtain ⟨n, hN⟩ : ∃ n, n = ps.length := ⟨_, rfl⟩
  have hn : n ≤ 30 := by omega
  have hnI : ¬ ((1048576 : Int) < (n : Int)) := by omega
  rw [← hN] at HDV hcap ⊢
  have HN := Lib.hid hN
  clear hH hhd htx hll hal hhl hT hDV hb hN hlen hf hc
  generalize hH' : headC c = HC at *
  clear hH'
  have HK1 := Lib.hid (Kept.allocd w (.cells #[.int .i64 c.c0, .int .i64 c.c1, .int .i64 c.c2, .int .i64 c.c3, .int .i64 c.c4] 52))
  have HG1 := Lib.hid (heap_alloc_new w (.cells #[.int .i64 c.c0, .int .i64 c.c1, .int .i64 c.c2, .int .i64 c.c3, .int .i64 c.c4] 52))
  unfold confV at HHD ⊢
  obtain ⟨S, hS⟩ : ∃ S : ByteArray, S = ⟨HC.toArray⟩ := ⟨_, rfl⟩
  have hSz : S.size ≤ 200 := by rw [str_size hS]; exact HHL.out
  have HS := Lib.hid hS
  rw [← hS] at HHD
  clear hS
  go_enter Tryd.func22, Tryd.ntmps22
  go_wp2_with fail
  generalize w.alloc (.cells #[.int .i64 c.c0, .int .i64 c.c1, .int .i64 c.c2, .int .i64 c.c3, .int .i64 c.c4] 52) = W1 at *
  refine (HHD.out _).mono ?_
  rintro e w2 ⟨rfl, hk⟩
  have HK2 := Lib.hid (HK1.out.trans hk)
  clear hk HG1 HK1
  have hcv := Lib.run_convert_string_bytes (P := Tryd.prog) w2 9 22 5 (S ++ ⟨#[10]⟩) Tryd.underlying9 Tryd.underlying22 Tryd.underlying5
  have hse : S ++ ⟨#[10]⟩ = (⟨(HC ++ [10]).toArray⟩ : ByteArray) := by rw [HS.out]; exact str_app HC [10]
  have hsl : (S ++ ⟨#[10]⟩ : ByteArray).size = (HC ++ [10]).length := by rw [hse]; rfl
  have hhl2 : (HC ++ [10]).length ≤ 201 := by have := HHL.out; rw [List.length_append, List.length_singleton]; omega
  have hown := bytesWorld_own w2 5 (S ++ ⟨#[10]⟩) (by rw [hsl]; unfold maxLen; omega)
  have hkb := bytesWorld_kept w2 5 (S ++ ⟨#[10]⟩)
  generalize hW : Lib.bytesWorld w2 5 (S ++ ⟨#[10]⟩) = W3 at *
  rw [hsl] at hown hcv
  have hown2 : OwnT W3 w.heap.size (.slice (some ⟨w2.heap.size, 0, none⟩) (HC ++ [10]).length (grownCap w2 (HC ++ [10]).length 0 5)) (HC ++ [10]) := by
    have := hown.lower HK2.out.size
    rwa [show (S ++ ⟨#[10]⟩ : ByteArray).data.toList = HC ++ [10] by rw [hse]] at this
  have HO3 := Lib.hid hown2
  have HK3 := Lib.hid (HK2.out.trans hkb)
  clear hown hown2 hkb hW hsl hse
  go_wp2_with fail
  clear hcv
  go_loopw [6, 7, 8] (fun vb vl vi wr => ∃ k : Nat, k ≤ n ∧ vi = .int .i64 k ∧ vl = .bool false ∧ OwnT wr w.heap.size vb ((HC ++ [10]) ++ linesA ((ps.take k).map (·.1))) ∧ ((ps.take k).any fun p => badT p.1) = false ∧ Kept NoBlock w wr) (fun _ _ vi _ => n - (intOf vi).toNat)
  case atStart => exact ⟨0, Nat.zero_le _, rfl, rfl, by simpa [linesA] using HO3.out, rfl, HK3.out⟩
  case round =>
    obtain ⟨k, hk, rfl, rfl, hown, hno, hkk⟩ := hrel
    have hlk : (linesA ((ps.take k).map (·.1))).length ≤ 1200000 := by
      have := HAL.out k
      have h2 : ((ps.take k).map (·.1)).length ≤ 30 := by rw [List.length_map, List.length_take]; omega
      omega
    obtain ⟨B, hB⟩ : ∃ B, B = (HC ++ [10]) ++ linesA ((ps.take k).map (·.1)) := ⟨_, rfl⟩
    rw [← hB] at hown
    have hBl : B.length ≤ 1200300 := by rw [hB]; simp only [List.length_append] at hhl2 ⊢; omega
    obtain ⟨bap, bcap, rfl, _⟩ := hown.bytes.parts
    have HBB := Lib.hid hB
    have HO := Lib.hid hown
    have HK := Lib.hid hkk
    have HNO := Lib.hid hno
    have hsz := hkk.size
    clear hown hno hkk hlk hB HO3 HK3
    by_cases hlt : k < n
    · have hltI : (k : Int) < (n : Int) := by omega
      have hil : k < ps.length := by have := HN.out; omega
      obtain ⟨p, hp⟩ : ∃ p, ps[k]? = some p := ⟨ps[k], List.getElem?_eq_getElem hil⟩
      have hpm := List.mem_of_getElem? hp
      obtain ⟨ad, rfl, a0, a1, a2, a3, a4⟩ := (HDV.out.kept HK.out).at hp
      have hbv := (HB.out p hpm).keptNo HK.out
      have htk : B ++ (lineD p.1 ++ [10]) = (HC ++ [10]) ++ linesA ((ps.take (k + 1)).map (·.1)) := by rw [HBB.out, List.take_add_one, hp, List.map_append]; simp [linesA_snoc]
      have htb : ((ps.take (k + 1)).any fun p => badT p.1) = badT p.1 := by rw [List.take_add_one, hp, List.any_append, HNO.out]; simp
      have hall : badT p.1 = true → (ps.any fun p => badT p.1) = true := fun h => by
        rw [List.any_eq_true]; exact ⟨p, hpm, h⟩
      have htext := HTX.out p hpm
      have hll := HLL.out p hpm
      obtain ⟨d, bv⟩ := p
      simp only at a0 a1 a2 a3 a4 hbv htk htb hall htext hll
      obtain ⟨bp, bc, rfl, _⟩ := hbv.parts
      have HBV := Lib.hid hbv
      cases hbd : badT d with
      | true =>
        have h2 := textD_bad hbd
        have hTT : T = ([], 251) := by rw [← HT.out, if_pos (hall hbd)]
        have HTT := Lib.hid hTT
        rw [h2] at htext
        generalize (⟨(textD d).1.toArray⟩ : ByteArray) = X at *
        have HTE := Lib.hid htext
        clear htext hll htk htb hall hbd h2 hTT hp hpm hbv hil
        go_wp2_with fail
        refine (HTE.out _ _ ⟨_, rfl, HBV.out⟩).mono ?_
        rintro e w4 ⟨rfl, hk4⟩
        have HK4 := Lib.hid (HK.out.trans hk4)
        clear hk4 a0 a1 a2 a3 a4
        go_wp2_with fail
        go_ret2
        exact ⟨by rw [HTT.out]; rfl, HK4.out⟩
      | false =>
        rw [textD_good hbd] at htext
        simp only at htext
        rw [hbd] at htb
        generalize lineD d = L at *
        obtain ⟨A, hA⟩ : ∃ A : ByteArray, A = ⟨L.toArray⟩ := ⟨_, rfl⟩
        have hAz : A.size ≤ 36200 := by rw [str_size hA]; exact hll
        rw [← hA] at htext
        have happ : A ++ ⟨#[10]⟩ = (⟨(L ++ [10]).toArray⟩ : ByteArray) := by rw [hA]; exact str_app L [10]
        have hl10 : (L ++ [10]).length ≤ 36201 := by rw [List.length_append, List.length_singleton]; omega
        have HTE := Lib.hid htext
        have HAP := Lib.hid happ
        have HTK := Lib.hid htk
        have HTB := Lib.hid htb
        obtain ⟨mm, hmm⟩ : ∃ mm : Int, (B.length : Int) + (A.size : Int) + 1 = mm := ⟨_, rfl⟩
        have hlong : ¬ ((67108864 : Int) < mm) := by omega
        have hlongd : decide ((67108864 : Int) < mm) = false := decide_eq_false hlong
        have hm0 : -9223372036854775808 ≤ mm := by omega
        have hm1 : mm ≤ 9223372036854775807 := by omega
        clear htext hll htk htb hall hbd hp hpm hbv hil hA happ
        go_wp2_with fail
        refine (HTE.out _ _ ⟨_, rfl, HBV.out⟩).mono ?_
        rintro e w4 ⟨rfl, hk4⟩
        have HK4 := Lib.hid (HK.out.trans hk4)
        have HO4 := Lib.hid (HO.out.kept hk4)
        clear hk4 a0 a1 a2 a3 a4
        have hsz4 := HK4.out.size
        generalize hBn : B.length = bn at *
        have HBN := Lib.hid hBn
        clear hBn
        go_wp2_with (at_builtin; refine wpList_appT rfl _ _ rfl w.heap.size _ B rfl (by exact HO4.out) (L ++ [10]) _ HAP.out rfl (by have := HBN.out; omega) hsz4 ?_; intro v3 w3 hown3 hg3; refine Hid.out ?_)
        have HO5 := Lib.hid hown3
        have HK5 := Lib.hid (Kept.app HK4.out HO4.out (Nat.le_refl _) hg3)
        clear hown3 hg3
        refine Lib.hid ?_
        go_wp2
        go_roundw
        case rel => exact ⟨k + 1, by omega, by go_num, rfl, by rw [← HTK.out]; exact HO5.out, HTB.out, HK5.out⟩
        case measure => simp [intOf]; omega
    · obtain rfl : k = n := by omega
      have htt : ps.take k = ps := List.take_of_length_le (by have := HN.out; omega)
      have hno := HNO.out
      rw [htt] at hno
      have hTT : T = (B, 0) := by rw [← HT.out, if_neg (by rw [hno]; decide), HBB.out, htt]
      have HTT := Lib.hid hTT
      clear hTT hno htt
      have e1 := conv_of HO.out.bytes
      generalize B.length = bn at *
      obtain ⟨X, hX⟩ : ∃ X : ByteArray, X = ⟨B.toArray⟩ := ⟨_, rfl⟩
      rw [← hX] at e1
      have HX := Lib.hid hX
      clear hX
      go_wp2_with fail
      go_ret2
      exact ⟨by rw [HTT.out]; exact congrArg (fun s => Ending.returned (.tuple #[.string s, .int .i64 0])) HX.out, HK.out⟩
end Go.Proofs.YtdinkdmkbfbjbaaDoor
namespace Go.Proofs.YtdinkdmkbfbjbaaDoor
open Go.RowKit
open Go.Lib (decDigits)

theorem not_dig_10 : ¬ isDig 10 := by unfold isDig; decide
theorem itoa_10 (n : Int) : ∀ b ∈ Lib.itoa n, b ≠ 10 := itoa_no n not_dig_10 (by decide)
theorem dec_10 (u : Nat) : ∀ b ∈ decDigits u, b ≠ 10 := dec_no u not_dig_10
theorem quotedC_10 (c : UInt8) : (quotedC c).all (fun x => x != 10) = true := u8_all (p := fun c => (quotedC c).all (fun x => x != 10)) (by decide +kernel) c
theorem quote_10 (b : Bs) : ∀ x ∈ quote b, x ≠ 10 := by
  intro x hx
  simp only [quote, quoteA, List.mem_cons, List.mem_append, List.mem_flatten, List.mem_map, List.not_mem_nil, or_false] at hx
  rcases hx with rfl | ⟨l, ⟨c, _, rfl⟩, hx⟩ | rfl
  · decide
  · have := List.all_eq_true.1 (quotedC_10 c) x hx
    simpa using this
  · decide

theorem no10_app {x y : Bs} (hx : ∀ b ∈ x, b ≠ 10) (hy : ∀ b ∈ y, b ≠ 10) : ∀ b ∈ x ++ y, b ≠ 10 := by
  intro b hb
  rcases List.mem_append.1 hb with h | h
  · exact hx b h
  · exact hy b h
theorem lineD_10 (d : Deed) : ∀ x ∈ lineD d, x ≠ 10 := by
  obtain ⟨k, a, n, dr, b⟩ := d
  have h0 := itoa_10 a
  have h1 := itoa_10 n
  have h2 := dec_10 dr
  have h3 := quote_10 b
  have h4 : ∀ x ∈ ([32] : Bs), x ≠ 10 := by decide
  unfold lineD
  simp only
  split
  · exact no10_app (by decide) h0
  split
  · exact no10_app (no10_app (no10_app (by decide) h0) h4) h3
  split
  · exact no10_app (no10_app (no10_app (no10_app (no10_app (by decide) h0) h4) h1) h4) h2
  split
  · exact no10_app (no10_app (no10_app (by decide) h0) h4) h1
  split
  · exact no10_app (by decide) h0
  split
  · exact no10_app (no10_app (no10_app (by decide) h0) h4) h1
  split
  · exact no10_app (no10_app (no10_app (by decide) h0) h4) h2
  · intro x hx; cases hx
theorem headC_10 (c : Conf) : ∀ x ∈ headC c, x ≠ 10 := by
  rw [head_form]
  have h4 : ∀ x ∈ ([32] : Bs), x ≠ 10 := by decide
  have key : ∀ (n : Int) (y : Bs), (∀ x ∈ y, x ≠ 10) → ∀ x ∈ Lib.itoa n ++ 32 :: y, x ≠ 10 := fun n y hy => no10_app (itoa_10 n) (fun x hx => by rcases List.mem_cons.1 hx with rfl | hx; decide; exact hy x hx)
  refine no10_app (by decide) (fun x hx => ?_)
  rcases List.mem_cons.1 hx with rfl | hx
  · decide
  · exact key _ _ (key _ _ (key _ _ (key _ _ (itoa_10 _)))) x hx

theorem linesS_hit {x : Bs} (h : ∀ b ∈ x, b ≠ 10) (y : Bs) : linesS (x ++ [10] ++ y) = (x :: (linesS y).1, (linesS y).2) := by
  rw [List.append_assoc, show ([10] : Bs) ++ y = 10 :: y from rfl, linesS_cut, cutB_hit h]
  simp
theorem linesS_nil : linesS [] = ([], []) := rfl
theorem linesS_lines : ∀ L : List Deed, linesS (linesA L) = (L.map lineD, [])
  | [] => rfl
  | d :: L => by
    have e : linesA (d :: L) = lineD d ++ [10] ++ linesA L := by simp [linesA]
    rw [e, linesS_hit (lineD_10 d), linesS_lines L]
    rfl

/-- A deed that has a text is read of it. -/
theorem parse_text {d : Deed} (hf : d.Fits) (hb : badT d = false) (hl : (lineD d).length ≤ 9000) : parseP (lineD d) = some d := by
  rw [parseP_is hl]
  have ht := textD_good hb
  unfold textD at ht
  split at ht
  · exact absurd (congrArg Prod.snd ht) (by simp)
  · rename_i h0
    split at ht
    · rename_i hbare
      refine ⟨hbare, hf, ?_, ?_, rfl⟩
      · apply Decidable.byContradiction
        intro h1
        apply h0
        obtain ⟨k, a, n, dr, b⟩ := d
        simp only at h1
        unfold lineD
        simp only [show ¬ (k = 1) by omega, show ¬ (k = 2) by omega, show ¬ (k = 3) by omega, show ¬ (k = 4) by omega, show ¬ (k = 5) by omega, show ¬ (k = 6) by omega, show ¬ (k = 7) by omega, if_false]
      · apply Decidable.byContradiction
        intro h1
        apply h0
        obtain ⟨k, a, n, dr, b⟩ := d
        simp only at h1
        unfold lineD
        simp only [show ¬ (k = 1) by omega, show ¬ (k = 2) by omega, show ¬ (k = 3) by omega, show ¬ (k = 4) by omega, show ¬ (k = 5) by omega, show ¬ (k = 6) by omega, show ¬ (k = 7) by omega, if_false]
    · exact absurd (congrArg Prod.snd ht) (by simp)

theorem line_short {d : Deed} (h : d.Fits) (hb : d.b.length ≤ 2000) : (lineD d).length ≤ 8200 := by
  obtain ⟨k, a, n, dr, b⟩ := d
  obtain ⟨hk, ha, hn, hdr, hbl⟩ := h
  simp only at ha hn hdr hb
  have hla := itoa_len a ha
  have hln := itoa_len n hn
  have hld := dec_len dr hdr
  have hlq : (quote b).length ≤ 8010 := by have := (quoteA_len b).2; simp only [quote, List.length_cons, List.length_append, List.length_nil]; omega
  unfold lineD
  simp only
  repeat (split; (simp only [List.length_append, List.length_cons, List.length_nil]; omega))
  simp

theorem goOver_lines : ∀ (L : List Deed) (n : Nat) (ds : List Deed), (∀ d ∈ L, parseP (lineD d) = some d) → goOver n (L.map lineD) ds = .ok (ds ++ L)
  | [], n, ds, _ => by simp [goOver]
  | d :: L, n, ds, h => by
    rw [List.map_cons, goOver, h d (by simp)]
    simp only
    rw [goOver_lines L (n + 1) (ds ++ [d]) (fun e he => h e (by simp [he]))]
    simp

/-- There and back. -/
theorem read_print {c : Conf} (hc : c.Fits) {L : List Deed} (hf : ∀ d ∈ L, d.Fits ∧ d.b.length ≤ 2000) (hb : L.any badT = false) : readD (headC c ++ [10] ++ linesA L) = .ok (c, L) := by
  have hp : ∀ d ∈ L, parseP (lineD d) = some d := fun d hd => by
    have hbd : badT d = false := by
      cases h : badT d with
      | false => rfl
      | true => rw [List.any_eq_false] at hb; exact absurd h (hb d hd)
    exact parse_text (hf d hd).1 hbd (Nat.le_trans (line_short (hf d hd).1 (hf d hd).2) (by decide))
  unfold readD
  rw [linesS_hit (headC_10 c), linesS_lines]
  simp only [settings_head c hc, goOver_lines L 1 [] hp, List.nil_append, if_true]
theorem short_print {c : Conf} (hc : c.Fits) {L : List Deed} (hf : ∀ d ∈ L, d.Fits ∧ d.b.length ≤ 2000) : ShortL (headC c ++ [10] ++ linesA L) := by
  refine ⟨fun x hx => ?_, ?_⟩
  · rw [linesS_hit (headC_10 c), linesS_lines] at hx
    rcases List.mem_cons.1 hx with rfl | hx
    · have := headC_len hc; omega
    · obtain ⟨d, hd, rfl⟩ := List.mem_map.1 hx
      have := line_short (hf d hd).1 (hf d hd).2
      omega
  · rw [linesS_hit (headC_10 c), linesS_lines]; simp
theorem lines_short : ∀ L : List Deed, (∀ d ∈ L, d.Fits ∧ d.b.length ≤ 2000) → (linesA L).length ≤ 8201 * L.length
  | [], _ => by simp [linesA]
  | d :: L, h => by
    have := line_short (h d (by simp)).1 (h d (by simp)).2
    have := lines_short L (fun m hm => h m (by simp [hm]))
    simp only [linesA, List.flatMap_cons, List.length_append, List.length_cons, List.length_nil] at this ⊢
    omega
end Go.Proofs.YtdinkdmkbfbjbaaDoor
namespace Go.Proofs.YtdinkdmkbfbjbaaDoor
open Go.RowKit
attribute [local go_sem] fold_part fold_some fold_some' partAt_zero

def strLen : Value → Nat
  | .string s => s.size
  | _ => 0

set_option maxRecDepth 100000 in
set_option maxHeartbeats 3200000 in
theorem pread (s : Bs) (hs : s.length ≤ 300000) (hsh : ShortL s) (w : World) (hV : Vs w) (hM : Mx w) :
    Calls Tryd.prog 23 #[.string ⟨s.toArray⟩] w (ReadEnd (readD s) w) := by
  have hct := fun l (hl : l.length ≤ 300000) W (hk : Kept NoBlock w W) => pcut l (by omega) 10 W (hM.kept hk)
  have hst := fun l (hl : l.length ≤ 9000) W (hk : Kept NoBlock w W) => psettings l hl W (hV.below hk.toB) (hM.kept hk)
  have hpa := fun l (hl : l.length ≤ 9000) W (hk : Kept NoBlock w W) => pparse l hl W (hV.below hk.toB) (hM.kept hk)
  have hc0 := hct s hs
  have hcut := hsh.cut
  have hcl := (cutB_len 10 s).2
  generalize hRR : readD s = RR
  rw [readD_cut] at hRR
  have hs0 := hst (cutB 10 s).1 hcut.1
  have hsh1 := hcut.2
  generalize (cutB 10 s).1 = l1 at *
  generalize (cutB 10 s).2.1 = l2 at *
  generalize (cutB 10 s).2.2 = wh at *
  obtain ⟨S, hS⟩ : ∃ S : ByteArray, S = ⟨s.toArray⟩ := ⟨_, rfl⟩
  obtain ⟨S1, hS1⟩ : ∃ S : ByteArray, S = ⟨l1.toArray⟩ := ⟨_, rfl⟩
  obtain ⟨S2, hS2⟩ : ∃ S : ByteArray, S = ⟨l2.toArray⟩ := ⟨_, rfl⟩
  have hSz : S.size ≤ 300000 := by rw [str_size hS]; exact hs
  have hSI : ¬ ((67108864 : Int) < (S.size : Int)) := by omega
  rw [← hS, ← hS1, ← hS2] at hc0
  rw [← hS1] at hs0
  rw [← hS]
  have HCT := Lib.hid hct
  have HPA := Lib.hid hpa
  have HC0 := Lib.hid hc0
  have HS0 := Lib.hid hs0
  have HRR := Lib.hid hRR
  have HSH := Lib.hid hsh1
  have HCL := Lib.hid hcl
  have HS2 := Lib.hid hS2
  have HSL := Lib.hid hs
  clear hct hst hpa hc0 hs0 hRR hsh1 hcl hcut hsh hS hS1 hS2 hs hV hM
  have HK1 := Lib.hid (Kept.allocd w (.cells #[.int .i64 0, .int .i64 0, .int .i64 0, .int .i64 0, .int .i64 0] 52))
  have HG1 := Lib.hid (heap_alloc_new w (.cells #[.int .i64 0, .int .i64 0, .int .i64 0, .int .i64 0, .int .i64 0] 52))
  go_enter Tryd.func23, Tryd.ntmps23
  go_wp2_with fail
  generalize w.alloc (.cells #[.int .i64 0, .int .i64 0, .int .i64 0, .int .i64 0, .int .i64 0] 52) = W1 at *
  refine (HC0.out _ HK1.out).mono ?_
  rintro e w2 ⟨rfl, hk⟩
  have HK2 := Lib.hid (HK1.out.trans hk)
  have HG2 := Lib.hid (hk.heap HG1.out (fun h => h))
  clear hk HG1 HK1
  go_wp2_with fail
  refine (HS0.out _ HK2.out).mono ?_
  rintro e w3 ⟨hk, C, ok, rfl, hok⟩
  have HK3 := Lib.hid (HK2.out.trans hk)
  have hg3 := hk.heap HG2.out (fun h => h)
  have HG3 := Lib.hid hg3
  have hlt3 : w.heap.size < w3.heap.size := lt_of_heap hg3
  have HOK := Lib.hid hok
  have HK4 := Lib.hid (HK3.out.alloc (.cells #[.int .i64 C.c0, .int .i64 C.c1, .int .i64 C.c2, .int .i64 C.c3, .int .i64 C.c4] 52))
  have HG4 := Lib.hid ((Kept.allocd w3 (.cells #[.int .i64 C.c0, .int .i64 C.c1, .int .i64 C.c2, .int .i64 C.c3, .int .i64 C.c4] 52)).heap hg3 (fun h => h))
  have HC4 := Lib.hid (heap_alloc_new w3 (.cells #[.int .i64 C.c0, .int .i64 C.c1, .int .i64 C.c2, .int .i64 C.c3, .int .i64 C.c4] 52))
  clear hk hok hg3 HS0 HC0
  obtain ⟨z0, z1, z2, z3, z4⟩ := blk5 HG3.out
  have zf := fun i => frozenB HG3.out i
  unfold confV
  by_cases hgood : ok = true ∧ wh = true
  · obtain ⟨rfl, rfl⟩ := hgood
    clear z0 z1 z2 z3 z4 zf
    go_wp2_with fail
    generalize w3.alloc (.cells #[.int .i64 C.c0, .int .i64 C.c1, .int .i64 C.c2, .int .i64 C.c3, .int .i64 C.c4] 52) = W4 at *
    generalize w3.heap.size = hc at *
    have hgl : hc < W4.heap.size := lt_of_heap HC4.out
    have hW : ∃ c, settingsP l1 = some c ∧ C = c := by
      have := HOK.out
      cases hsp : settingsP l1 with
      | none => rw [hsp] at this; exact Bool.noConfusion (show true = false from this)
      | some d => rw [hsp] at this; exact ⟨d, rfl, this.2⟩
    obtain ⟨c, hsp, rfl⟩ := hW
    have hRR : RR = (match restD 1 l2 [] with | .ok ds => .ok (C, ds) | .error k => .error k) := by
      rw [← HRR.out, hsp]; rfl
    have HRS := Lib.hid hRR
    generalize hMM : restD 1 l2 [] = MM at *
    have HMM := Lib.hid hMM
    clear hRR hsp hMM HRR HOK
    obtain ⟨B, hB⟩ : ∃ B, B = W4.heap.size := ⟨_, rfl⟩
    rw [← hB] at hgl
    have hBw : w.heap.size < B := by omega
    have hB4 : B ≤ W4.heap.size := by omega
    clear hB
    go_loopw [7, 11, 12] (fun vr vl vn wr => ∃ (rest : Bs) (n : Nat) (ps : List (Deed × Value)), vr = .string ⟨rest.toArray⟩ ∧ vn = .int .i64 n ∧ OwnD wr B vl ps ∧ TypL wr ps ∧ restD n rest (ps.map (·.1)) = MM ∧ ShortL rest ∧ rest.length + ps.length ≤ 300000 ∧ n = ps.length + 1 ∧ Kept NoBlock w wr ∧ B ≤ wr.heap.size ∧
      wr.heap[w.heap.size]? = some (.cells #[.int .i64 0, .int .i64 0, .int .i64 0, .int .i64 0, .int .i64 0] 52 (0, 0)) ∧ wr.heap[hc]? = some (.cells #[.int .i64 C.c0, .int .i64 C.c1, .int .i64 C.c2, .int .i64 C.c3, .int .i64 C.c4] 52 (0, 0))) (fun vr _ _ _ => strLen vr)
    case atStart => exact ⟨l2, 1, [], by rw [HS2.out], rfl, OwnD.nil _ _, fun p hp => (by cases hp), HMM.out, HSH.out, by have := HCL.out; have := HSL.out; simp only [List.length_nil]; omega, rfl, HK4.out, hB4, HG4.out, HC4.out⟩
    case round =>
      obtain ⟨rest, n, ps, rfl, rfl, hown, htyp, hrest, hshort, hlen, hn, hk, hbs, hz, hcc⟩ := hrel
      obtain ⟨ap, cap, rfl, _⟩ := hown.form
      have HNE := Lib.hid hn
      have hnb : n ≤ 300001 := by omega
      have HO := Lib.hid hown
      have HTY := Lib.hid htyp
      have HRE := Lib.hid hrest
      have HSHR := Lib.hid hshort
      have HK := Lib.hid hk
      have HZ := Lib.hid hz
      have HCC := Lib.hid hcc
      clear hn hown htyp hrest hshort hk hz hcc HK4 HG4 HC4 HSH HMM
      obtain ⟨X, hX⟩ : ∃ X : ByteArray, X = ⟨rest.toArray⟩ := ⟨_, rfl⟩
      have hemp : X.toList.isEmpty = rest.isEmpty := by rw [Go.ByteArray.toList_eq, hX]
      have hXs := str_size hX
      by_cases hre : rest = []
      · subst hre
        have hfin : MM = .ok (ps.map (·.1)) := by rw [← HRE.out, restD_nil]
        have hRR : RR = .ok (C, ps.map (·.1)) := by rw [HRS.out, hfin]
        have HRRR := Lib.hid hRR
        clear hfin hRR HRE
        rw [← hX]
        have hemp2 : X.toList.isEmpty = true := hemp
        clear hX hemp
        obtain ⟨z0, z1, z2, z3, z4⟩ := blk5 HZ.out
        have zf := fun i => frozenB HZ.out i
        obtain ⟨y0, y1, y2, y3, y4⟩ := blk5 HCC.out
        have hdv := HO.out.deeds
        have hst : ∀ v0 v1 v2 v3 v4, Kept (fun k => k = w.heap.size) wr (((((wr.setCell ⟨w.heap.size, 0, none⟩ v0).setCell ⟨w.heap.size, 1, none⟩ v1).setCell ⟨w.heap.size, 2, none⟩ v2).setCell ⟨w.heap.size, 3, none⟩ v3).setCell ⟨w.heap.size, 4, none⟩ v4) := fun v0 v1 v2 v3 v4 => ((((Kept.one wr _ 0 v0).one' 1 v1).one' 2 v2).one' 3 v3).one' 4 v4
        have HST := Lib.hid hst
        have HDV := Lib.hid hdv
        generalize ps.length = pn at *
        clear hst hdv
        go_wp2_with fail
        refine bodyPost_ret (v := .tuple #[.agg #[.int .i64 C.c0, .int .i64 C.c1, .int .i64 C.c2, .int .i64 C.c3, .int .i64 C.c4], .slice ap pn cap, .int .i64 0, .int .i64 0]) (results_cell_tmp3 (q1 := 3) (q2 := 4) (q3 := 5) (ty := 52) (ad := ⟨w.heap.size, 0, none⟩) rfl _ rfl (by go_simp)) rfl (read_ok (c := C) (ps := ps) HRRR.out (HK.out.own5 (Nat.le_refl _) _ _ _ _ _) rfl ?_ ?_)
        · exact (HO.out.keptS (HST.out _ _ _ _ _) (fun k hk e => by omega)).deeds
        · exact (HTY.out.keptH HZ.out (by decide) (HST.out _ _ _ _ _)).bytes
      · have hemp2 : X.toList.isEmpty = false := by
          rw [hemp]; cases rest with
          | nil => exact absurd rfl hre
          | cons _ _ => rfl
        have hcut := HSHR.out.cut
        have hstep := restD_cut (n := n) (ds := ps.map (·.1)) hre
        rw [HRE.out] at hstep
        have hshr := cutB_shorter (c := 10) hre
        have hc1 := HCT.out rest (by omega)
        have hp1 := HPA.out (cutB 10 rest).1 hcut.1
        have hsh1 := hcut.2
        clear hcut HSHR HRE hre hemp
        generalize (cutB 10 rest).1 = f1 at *
        generalize (cutB 10 rest).2.1 = r1 at *
        generalize (cutB 10 rest).2.2 = w1h at *
        rw [← hX] at hc1 ⊢
        obtain ⟨F1, hF1⟩ : ∃ S : ByteArray, S = ⟨f1.toArray⟩ := ⟨_, rfl⟩
        obtain ⟨R1, hR1⟩ : ∃ S : ByteArray, S = ⟨r1.toArray⟩ := ⟨_, rfl⟩
        rw [← hF1, ← hR1] at hc1
        rw [← hF1] at hp1
        have HST := Lib.hid hstep
        have HSHN := Lib.hid hshr
        have HC1 := Lib.hid hc1
        have HP1 := Lib.hid hp1
        have HSH1 := Lib.hid hsh1
        have HR1 := Lib.hid hR1
        clear hX hstep hshr hc1 hp1 hsh1 hF1 hR1
        generalize parseP f1 = r at *
        go_wp2_with fail
        refine (HC1.out _ HK.out).mono ?_
        rintro e w5 ⟨rfl, hk⟩
        have HK5 := Lib.hid (HK.out.trans hk)
        have HO5 := Lib.hid (HO.out.kept hk)
        have HTY5 := Lib.hid (HTY.out.kept hk)
        have HZ5 := Lib.hid (hk.heap HZ.out (fun h => h))
        have HCC5 := Lib.hid (hk.heap HCC.out (fun h => h))
        have hbs5 : B ≤ w5.heap.size := Nat.le_trans hbs hk.size
        clear hk HK HO HTY HZ HCC HC1
        go_wp2_with fail
        refine (HP1.out _ HK5.out).mono ?_
        rintro e w6 ⟨hk, hend⟩
        have HK6 := Lib.hid (HK5.out.trans hk)
        have HO6 := Lib.hid (HO5.out.kept hk)
        have HTY6 := Lib.hid (HTY5.out.kept hk)
        have HZ6 := Lib.hid (hk.heap HZ5.out (fun h => h))
        have HCC6 := Lib.hid (hk.heap HCC5.out (fun h => h))
        have hbs6 : B ≤ w6.heap.size := Nat.le_trans hbs5 hk.size
        clear hk HK5 HO5 HTY5 HZ5 HCC5 HP1
        have hzl := lt_of_heap HZ6.out
        cases r with
        | none =>
          obtain ⟨v, rfl, hv⟩ := hend
          obtain ⟨bv, rfl, hb⟩ := hv
          obtain ⟨bp, bc, rfl, _⟩ := hb.parts
          have hbad : RR = .error n := by
            have h2 : MM = .error n := by rw [HST.out]; cases w1h <;> rfl
            rw [HRS.out, h2]
          have HBAD := Lib.hid hbad
          clear hbad hb HST
          obtain ⟨z0, z1, z2, z3, z4⟩ := blk5 HZ6.out
          have zf := fun i => frozenB HZ6.out i
          go_wp2_with fail
          refine bodyPost_ret (v := .tuple #[.agg #[.int .i64 0, .int .i64 0, .int .i64 0, .int .i64 0, .int .i64 0], .slice none 0 0, .int .i64 (n : Nat), .int .i64 251]) (results_cell_tmp3 (q1 := 3) (q2 := 4) (q3 := 5) (ty := 52) (ad := ⟨w.heap.size, 0, none⟩) rfl _ rfl (by go_simp)) rfl (read_err HBAD.out ?_)
          exact (HK6.out.own5 (Nat.le_refl _) _ _ _ _ _).alloc _
        | some d =>
          obtain ⟨bv, rfl, hb, ht⟩ := hend
          obtain ⟨bp, bc, rfl, _⟩ := hb.parts
          cases w1h with
          | false =>
            have hbad : RR = .error n := by
              have h2 : MM = .error n := by rw [HST.out]; rfl
              rw [HRS.out, h2]
            have HBAD := Lib.hid hbad
            clear hbad hb ht HST
            obtain ⟨z0, z1, z2, z3, z4⟩ := blk5 HZ6.out
            have zf := fun i => frozenB HZ6.out i
            go_wp2_with fail
            refine bodyPost_ret (v := .tuple #[.agg #[.int .i64 0, .int .i64 0, .int .i64 0, .int .i64 0, .int .i64 0], .slice none 0 0, .int .i64 (n : Nat), .int .i64 251]) (results_cell_tmp3 (q1 := 3) (q2 := 4) (q3 := 5) (ty := 52) (ad := ⟨w.heap.size, 0, none⟩) rfl _ rfl (by go_simp)) rfl (read_err HBAD.out ?_)
            exact (HK6.out.own5 (Nat.le_refl _) _ _ _ _ _).alloc _
          | true =>
            have hst2 : restD (n + 1) r1 (ps.map (·.1) ++ [d]) = MM := HST.out.symm
            have HST2 := Lib.hid hst2
            have HB := Lib.hid hb
            have HT := Lib.hid ht
            clear hst2 hb ht HST
            obtain ⟨pn, hpn⟩ : ∃ pn, pn = ps.length := ⟨_, rfl⟩
            have hpI : ¬ ((pn : Int) = 1048576) := by omega
            have hpb : ((pn : Int) == 1048576) = false := by rw [beq_eq_false_iff_ne]; exact hpI
            rw [← hpn] at HO6 ⊢
            have HPN := Lib.hid hpn
            clear hpn
            have hnw : ((w6.alloc (.cells #[.int .i64 d.kind, .int .i64 d.a, .int .i64 d.n, .int .u64 d.draw, .slice bp d.b.length bc] 36)).alloc (.cells #[.int .i64 d.kind, .int .i64 d.a, .int .i64 d.n, .int .u64 d.draw, .slice bp d.b.length bc] 36)).heap[w6.heap.size + 1]? = some (.cells #[.int .i64 d.kind, .int .i64 d.a, .int .i64 d.n, .int .u64 d.draw, .slice bp d.b.length bc] 36 (0, 0)) := by
              have := heap_alloc_new (w6.alloc (.cells #[.int .i64 d.kind, .int .i64 d.a, .int .i64 d.n, .int .u64 d.draw, .slice bp d.b.length bc] 36)) (.cells #[.int .i64 d.kind, .int .i64 d.a, .int .i64 d.n, .int .u64 d.draw, .slice bp d.b.length bc] 36)
              rwa [World.size_alloc] at this
            have HNW := Lib.hid hnw
            have hk8 : Kept NoBlock w6 ((w6.alloc (.cells #[.int .i64 d.kind, .int .i64 d.a, .int .i64 d.n, .int .u64 d.draw, .slice bp d.b.length bc] 36)).alloc (.cells #[.int .i64 d.kind, .int .i64 d.a, .int .i64 d.n, .int .u64 d.draw, .slice bp d.b.length bc] 36)) := (Kept.allocd w6 _).alloc _
            have HO8 : Hid (OwnD _ B (.slice ap pn cap) ps) := Lib.hid (HO6.out.kept hk8)
            have HTY8 := Lib.hid (show TypL _ (ps ++ [(d, .slice bp d.b.length bc)]) from fun p hp => by
              rcases List.mem_append.1 hp with hp | hp
              · exact HTY6.out.kept hk8 p hp
              · obtain rfl := List.mem_singleton.1 hp
                exact ⟨HB.out.keptNo hk8, HT.out.kept hk8⟩)
            have HK8 := Lib.hid (HK6.out.trans hk8)
            have HZ8 := Lib.hid (hk8.heap HZ6.out (fun h => h))
            have HCC8 := Lib.hid (hk8.heap HCC6.out (fun h => h))
            clear hnw hk8
            go_wp2_with (at_builtin; refine wpList_appD rfl _ _ (by rfl) B _ ps (by rfl) HO8.out (w6.heap.size + 1) (d, .slice bp d.b.length bc) (by rfl) HNW.out rfl (by omega) (by simp; omega) ?_; intro v3 w9 hown3 hg3; refine Hid.out ?_)
            have HO9 := Lib.hid hown3
            have HTY9 := Lib.hid (HTY8.out.grown HO8.out hg3)
            have HK9 := Lib.hid (Kept.appD HK8.out HO8.out (Nat.le_of_lt hBw) hg3)
            have hlt8 := (HO8.out.lt)
            have HZ9 := Lib.hid (show w9.heap[w.heap.size]? = some (.cells #[.int .i64 0, .int .i64 0, .int .i64 0, .int .i64 0, .int .i64 0] 52 (0, 0)) from by
              rw [hg3.block w.heap.size (by simp; omega) (fun e => by have := hlt8 _ e.symm; omega)]; exact HZ8.out)
            have HCC9 := Lib.hid (show w9.heap[hc]? = some (.cells #[.int .i64 C.c0, .int .i64 C.c1, .int .i64 C.c2, .int .i64 C.c3, .int .i64 C.c4] 52 (0, 0)) from by
              rw [hg3.block hc (by simp; omega) (fun e => by have := hlt8 _ e.symm; omega)]; exact HCC8.out)
            have hbs9 : B ≤ w9.heap.size := by have := hg3.size; simp at this; omega
            obtain ⟨ap9, cap9, rfl, _⟩ := hown3.form
            clear hown3 hg3 hlt8
            refine Lib.hid ?_
            go_wp2
            go_roundw
            case rel => exact ⟨r1, n + 1, ps ++ [(d, .slice bp d.b.length bc)], by rw [HR1.out], by go_num, HO9.out, HTY9.out, by rw [List.map_append]; exact HST2.out, HSH1.out, by have := HSHN.out; rw [List.length_append, List.length_singleton]; omega, by have := HNE.out; rw [List.length_append, List.length_singleton]; omega, HK9.out, hbs9, HZ9.out, HCC9.out⟩
            case measure =>
              have := HSHN.out
              have h2 := str_size HR1.out
              simp only [strLen]
              omega
  · have hbad : RR = .error 0 := by
      rw [← HRR.out]
      cases wh with
      | false => rfl
      | true =>
        have hno : ok = false := by cases ok with | false => rfl | true => exact absurd ⟨rfl, rfl⟩ hgood
        subst hno
        have := HOK.out
        cases hsp : settingsP l1 with
        | none => rfl
        | some d => rw [hsp] at this; exact absurd this.1 (by decide)
    have HBAD := Lib.hid hbad
    have hcase : ok = false ∨ (ok = true ∧ wh = false) := by
      cases ok with
      | false => exact .inl rfl
      | true => cases wh with
        | false => exact .inr ⟨rfl, rfl⟩
        | true => exact absurd ⟨rfl, rfl⟩ hgood
    clear hbad hgood HRR HOK
    rcases hcase with rfl | ⟨rfl, rfl⟩
    all_goals
      go_wp2_with fail
      refine bodyPost_ret (v := .tuple #[.agg #[.int .i64 0, .int .i64 0, .int .i64 0, .int .i64 0, .int .i64 0], .slice none 0 0, .int .i64 (0 : Nat), .int .i64 251]) (results_cell_tmp3 (q1 := 3) (q2 := 4) (q3 := 5) (ty := 52) (ad := ⟨w.heap.size, 0, none⟩) rfl _ rfl (by go_simp)) rfl (read_err HBAD.out ?_)
      exact (HK3.out.own5 (Nat.le_refl _) _ _ _ _ _).alloc _
end Go.Proofs.YtdinkdmkbfbjbaaDoor
namespace Go.Proofs.YtdinkdmkbfbjbaaDoor
open Go.RowKit
attribute [local go_sem] fold_part fold_some fold_some' partAt_zero

def sameL : List Deed → List Deed → Bool
  | [], [] => true
  | d :: ds, e :: es => sameD d e && sameL ds es
  | _, _ => false
theorem sameD_refl (d : Deed) : sameD d d = true := by simp [sameD]
theorem sameL_refl : ∀ L : List Deed, sameL L L = true
  | [] => rfl
  | d :: L => by simp [sameL, sameD_refl, sameL_refl L]
theorem sameL_len : ∀ {L M : List Deed}, L.length ≠ M.length → sameL L M = false
  | [], [], h => absurd rfl h
  | [], _ :: _, _ => rfl
  | _ :: _, [], _ => rfl
  | d :: L, e :: M, h => by
    rw [sameL, sameL_len (L := L) (M := M) (fun h2 => h (by simp [h2])), Bool.and_false]

set_option maxRecDepth 100000 in
set_option maxHeartbeats 1600000 in
theorem rsameall (v u : Value) (ps qs : List (Deed × Value)) (w : World) (h1 : DeedsV w v ps) (b1 : BsV w ps) (h2 : DeedsV w u qs) (b2 : BsV w qs) (hl1 : ps.length ≤ 2000000) (hl2 : qs.length ≤ 2000000) :
    Calls Tryd.prog 24 #[v, u] w fun e w' => e = .returned (.bool (sameL (ps.map (·.1)) (qs.map (·.1)))) ∧ Kept NoBlock w w' := by
  have D1 := h1
  have D2 := h2
  obtain ⟨ap, cap, rfl, _, hc1, _⟩ := h1
  obtain ⟨aq, caq, rfl, _, hc2, _⟩ := h2
  generalize hM : sameL (ps.map (·.1)) (qs.map (·.1)) = M
  have HM := Lib.hid hM
  clear hM
  obtain ⟨n, hN⟩ : ∃ n, n = ps.length := ⟨_, rfl⟩
  obtain ⟨m, hMm⟩ : ∃ m, m = qs.length := ⟨_, rfl⟩
  rw [← hN] at D1 hc1 hl1 ⊢
  rw [← hMm] at D2 hc2 hl2 ⊢
  have HN := Lib.hid hN
  have HMM := Lib.hid hMm
  have HD1 := Lib.hid D1
  have HD2 := Lib.hid D2
  have HB1 := Lib.hid b1
  have HB2 := Lib.hid b2
  clear hN hMm D1 D2 b1 b2
  by_cases hnm : n = m
  · subst hnm
    go_enter Tryd.func24, Tryd.ntmps24
    go_wp2
    go_loopw [5] (fun vi wr => ∃ i : Nat, vi = .int .i64 i ∧ i ≤ n ∧ sameL ((ps.drop i).map (·.1)) ((qs.drop i).map (·.1)) = M ∧ Kept NoBlock w wr) (fun vi _ => n - (intOf vi).toNat)
    case atStart => exact ⟨0, rfl, Nat.zero_le _, HM.out, Kept.refl _ _⟩
    case round =>
      obtain ⟨i, rfl, hi, hsm, hk⟩ := hrel
      have HK := Lib.hid hk
      have HSM := Lib.hid hsm
      clear hk hsm
      by_cases hlt : i < n
      · have hltI : (i : Int) < (n : Int) := by omega
        have hi1 : i < ps.length := by have := HN.out; omega
        have hi2 : i < qs.length := by have := HMM.out; omega
        obtain ⟨p, hp⟩ : ∃ p, ps[i]? = some p := ⟨ps[i], List.getElem?_eq_getElem hi1⟩
        obtain ⟨q, hq⟩ : ∃ q, qs[i]? = some q := ⟨qs[i], List.getElem?_eq_getElem hi2⟩
        have hdp : ps.drop i = p :: ps.drop (i + 1) := by rw [List.drop_eq_getElem_cons hi1]; rw [List.getElem?_eq_getElem hi1] at hp; cases hp; rfl
        have hdq : qs.drop i = q :: qs.drop (i + 1) := by rw [List.drop_eq_getElem_cons hi2]; rw [List.getElem?_eq_getElem hi2] at hq; cases hq; rfl
        have hst := HSM.out
        rw [hdp, hdq, List.map_cons, List.map_cons, sameL] at hst
        obtain ⟨ad, rfl, a0, a1, a2, a3, a4⟩ := (HD1.out.kept HK.out).at hp
        obtain ⟨ae, rfl, e0, e1, e2, e3, e4⟩ := (HD2.out.kept HK.out).at hq
        have hb1 := (HB1.out p (List.mem_of_getElem? hp)).keptNo HK.out
        have hb2 := (HB2.out q (List.mem_of_getElem? hq)).keptNo HK.out
        obtain ⟨d, bv⟩ := p
        obtain ⟨d', bv'⟩ := q
        simp only at a0 a1 a2 a3 a4 e0 e1 e2 e3 e4 hb1 hb2 hst
        obtain ⟨bp, bc, rfl, _⟩ := hb1.parts
        obtain ⟨bq, bd, rfl, _⟩ := hb2.parts
        have hcall := fun W (hk : Kept NoBlock wr W) => rsame _ _ d d' W ⟨_, rfl, hb1.keptNo hk⟩ ⟨_, rfl, hb2.keptNo hk⟩
        generalize sameD d d' = SD at *
        have HC := Lib.hid hcall
        have HST := Lib.hid hst
        clear hi1 hi2 hp hq hdp hdq hst hb1 hb2 hcall
        go_wp2_with fail
        refine wp_plan 0 [1, 2, 3, 4, 5, 6, 7] 8 [] [9] (by kernel_rfl) (by kernel_rfl) ?_
        simp only [wpPlan, pick, List.filterMap_cons, List.filterMap_nil, List.getElem?_cons_succ, List.getElem?_cons_zero]
        repeat (quiet_step (fail))
        refine wpQuiet_nil ?_
        rintro _ ⟨q1, rfl⟩
        go_wp2_with fail
        refine (HC.out _ ((Kept.refl _ _).drewN _)).mono ?_
        rintro e w2 ⟨rfl, hk⟩
        have HK2 := Lib.hid ((HK.out.drewN q1).trans hk)
        clear hk a0 a1 a2 a3 a4 e0 e1 e2 e3 e4
        go_wp2_with fail
        refine Halt.mk ?_
        repeat (quiet_step (fail))
        refine wpQuiet_nil ?_
        rintro _ ⟨q2, rfl⟩
        cases SD with
        | true =>
          have hst2 : sameL ((ps.drop (i + 1)).map (·.1)) ((qs.drop (i + 1)).map (·.1)) = M := by have := HST.out; simpa using this
          have HST2 := Lib.hid hst2
          clear hst2
          go_wp2
          go_roundw
          case rel => exact ⟨i + 1, by go_num, by omega, HST2.out, HK2.out.drewN _⟩
          case measure => simp [intOf]; omega
        | false =>
          have hMf : M = false := by have := HST.out; simpa using this.symm
          have HMF := Lib.hid hMf
          clear hMf
          go_wp2_with fail
          go_ret
          exact ⟨by rw [HMF.out]; rfl, HK2.out.drewN _⟩
      · obtain rfl : i = n := by omega
        have hMt : M = true := by
          rw [← HSM.out, List.drop_of_length_le (by have := HN.out; omega), List.drop_of_length_le (by have := HMM.out; omega)]; rfl
        have HMT := Lib.hid hMt
        clear hMt
        go_wp2
        go_ret
        exact ⟨by rw [HMT.out]; rfl, HK.out⟩
  · have hMf : M = false := by rw [← HM.out]; exact sameL_len (by rw [List.length_map, List.length_map, ← HN.out, ← HMM.out]; exact hnm)
    have HMF := Lib.hid hMf
    have hnI : ¬ ((n : Int) = (m : Int)) := by omega
    have hnb : ((n : Int) == (m : Int)) = false := by rw [beq_eq_false_iff_ne]; exact hnI
    clear hMf hnm
    go_enter Tryd.func24, Tryd.ntmps24
    go_wp2
    go_ret
    exact ⟨by rw [HMF.out]; rfl, Kept.refl _ _⟩
end Go.Proofs.YtdinkdmkbfbjbaaDoor
namespace Go.Proofs.YtdinkdmkbfbjbaaDoor
open Go.RowKit
attribute [local go_sem] fold_part fold_some fold_some' partAt_zero

/-- A deed with its bytes cut. -/
def Deed.cut (d : Deed) : Deed := ⟨d.kind, d.a, d.n, d.draw, d.b.take 2000⟩
/-- The ranges of a deed's numbers. -/
structure Deed.Nums (d : Deed) : Prop where
  kind : -9223372036854775808 ≤ d.kind ∧ d.kind ≤ 9223372036854775807
  a : -9223372036854775808 ≤ d.a ∧ d.a ≤ 9223372036854775807
  n : -9223372036854775808 ≤ d.n ∧ d.n ≤ 9223372036854775807
  draw : d.draw < 18446744073709551616
theorem Deed.Nums.cut {d : Deed} (h : d.Nums) : d.cut.Fits := ⟨h.kind, h.a, h.n, h.draw, by unfold Deed.cut; simp only [List.length_take]; omega⟩

theorem take_len (l : Bs) (n : Nat) : l.take (l.take n).length = l.take n := by
  rw [List.length_take]
  rcases Nat.le_total n l.length with h | h
  · rw [Nat.min_eq_left h]
  · rw [Nat.min_eq_right h, List.take_length, List.take_of_length_le h]

theorem blk5f {w : World} {g : Nat} {a b c d e : Value} {T : TypeId} (h : w.heap[g]? = some (.cells #[a, b, c, d, e] T (0, 0))) (i : Nat) : w.frozen? ⟨g, i, none⟩ = false := frozenB h i

def parsedD (R : Option Deed) : Deed := match R with | some d => d | none => ⟨0, 0, 0, 0, []⟩
def parsedC (R : Option Deed) : Int := match R with | some _ => 0 | none => 251
theorem ParseEnd.told {R : Option Deed} {w w' : World} {e : Ending} (h : ParseEnd R w e w') : Kept NoBlock w w' ∧ ∃ k a n u bv, e = .returned (.tuple #[.agg #[.int .i64 k, .int .i64 a, .int .i64 n, .int .u64 u, bv], .int .i64 (parsedC R)]) ∧ DeedV w' (.agg #[.int .i64 k, .int .i64 a, .int .i64 n, .int .u64 u, bv]) (parsedD R) := by
  refine ⟨h.1, ?_⟩
  cases R with
  | none => obtain ⟨_, v, rfl, h⟩ := h; obtain ⟨bv, rfl, hb⟩ := h; exact ⟨_, _, _, _, _, rfl, _, rfl, hb⟩
  | some d => obtain ⟨_, bv, rfl, hb, _⟩ := h; exact ⟨_, _, _, _, _, rfl, _, rfl, hb⟩

set_option maxRecDepth 100000 in
set_option maxHeartbeats 3200000 in
theorem law_lines (v1 v2 : Value) (D E : Deed) (l0 : Bs) (w : World) (hV : Vs w) (hM : Mx w) (h1 : DeedV w v1 D) (h2 : DeedV w v2 E) (hD : D.Nums) (hE : E.Nums) :
    Calls Tryd.prog 4 #[v1, v2, .string ⟨l0.toArray⟩] w fun e w' => e = .returned (.bool true) ∧ Kept NoBlock w w' := by
  have hDF := hD.cut
  have hEF := hE.cut
  have ct := fun W => (lcutT l0 W).mono (R' := fun e w' => e = .returned (.string ⟨(l0.take 2000).toArray⟩) ∧ w' = W) (fun _ _ h => ⟨h.1, h.2.symm⟩)
  generalize hl : l0.take 2000 = l at *
  have hll : l.length ≤ 2000 := by rw [← hl, List.length_take]; omega
  have cp1 := fun W (hk : Kept NoBlock w W) => pparse l (by omega) W (hV.below hk.toB) (hM.kept hk)
  have cp2 := fun W (hk : Kept NoBlock w W) => rparse l (by omega) W (hV.below hk.toB)
  have cal := fun W (hk : Kept NoBlock w W) => lalive W (hV.below hk.toB) (hM.kept hk)
  have ct1 := fun v W (hk : Kept NoBlock w W) (h : DeedV W v D.cut) => ptext v _ W (hV.below hk.toB) h hDF
  have ct2 := fun v W (h : DeedV W v D.cut) => rtext v _ W h hDF
  generalize (⟨l0.toArray⟩ : ByteArray) = S0 at *
  generalize (⟨l.toArray⟩ : ByteArray) = S at *
  generalize parseP l = R at *
  obtain ⟨u1, rfl, hb1⟩ := h1
  obtain ⟨u2, rfl, hb2⟩ := h2
  obtain ⟨ap1, cap1, rfl, hc1, _⟩ := hb1.parts
  obtain ⟨ap2, cap2, rfl, hc2, _⟩ := hb2.parts
  have cb1 := fun W => lcutV ap1 cap1 D.b W hc1
  have cb2 := fun W => lcutV ap2 cap2 E.b W hc2
  have hx1 : BytesV w (.slice ap1 (D.b.take 2000).length cap1) (D.b.take 2000) := by have := hb1.front (D.b.take 2000).length (by rw [List.length_take]; omega); rwa [take_len] at this
  have hx2 : BytesV w (.slice ap2 (E.b.take 2000).length cap2) (E.b.take 2000) := by have := hb2.front (E.b.take 2000).length (by rw [List.length_take]; omega); rwa [take_len] at this
  have hln1 : (D.b.take 2000).length ≤ cap1 := by rw [List.length_take]; omega
  have hln2 : (E.b.take 2000).length ≤ cap2 := by rw [List.length_take]; omega
  obtain ⟨k1, a1, n1, r1, b1⟩ := D
  obtain ⟨k2, a2, n2, r2, b2⟩ := E
  unfold Deed.cut at ct1 ct2
  simp only at hx1 hx2 cb1 cb2 ct1 ct2 hln1 hln2 ⊢
  have csd := fun v u W (h : DeedV W v ⟨k1, a1, n1, r1, b1.take 2000⟩) (h' : DeedV W u ⟨k2, a2, n2, r2, b2.take 2000⟩) => psame v u _ _ W h h'
  have crd := fun v u W (h : DeedV W v ⟨k1, a1, n1, r1, b1.take 2000⟩) (h' : DeedV W u ⟨k2, a2, n2, r2, b2.take 2000⟩) => rsame v u _ _ W h h'
  have csr := fun v W (h : DeedV W v ⟨k1, a1, n1, r1, b1.take 2000⟩) => psame v v _ _ W h h
  generalize textD ⟨k1, a1, n1, r1, b1.take 2000⟩ = T at *
  have hself : ∀ d : Deed, sameD d d = true := fun d => by simp [sameD]
  rw [hself] at csr
  generalize sameD ⟨k1, a1, n1, r1, b1.take 2000⟩ ⟨k2, a2, n2, r2, b2.take 2000⟩ = SD at *
  clear hb1 hb2 hc1 hc2 hD hE hDF hEF hV hM hl hll
  generalize b1.length = m1 at *
  generalize b2.length = m2 at *
  generalize b1.take 2000 = e1 at *
  generalize b2.take 2000 = e2 at *
  have CT := Lib.hid ct
  have CP1 := Lib.hid cp1
  have CP2 := Lib.hid cp2
  have CAL := Lib.hid cal
  have CT1 := Lib.hid ct1
  have CT2 := Lib.hid ct2
  have CB1 := Lib.hid cb1
  have CB2 := Lib.hid cb2
  have HX1 := Lib.hid hx1
  have HX2 := Lib.hid hx2
  have CSD := Lib.hid csd
  have CRD := Lib.hid crd
  have CSR := Lib.hid csr
  have HSELF := Lib.hid hself
  clear ct cp1 cp2 cal ct1 ct2 cb1 cb2 hx1 hx2 csd crd csr hself
  have hk2 := (Kept.allocd w (.cells #[.int .i64 k1, .int .i64 a1, .int .i64 n1, .int .u64 r1, .slice ap1 m1 cap1] 36)).alloc (.cells #[.int .i64 k2, .int .i64 a2, .int .i64 n2, .int .u64 r2, .slice ap2 m2 cap2] 36)
  have hg1 := (Kept.allocd (w.alloc (.cells #[.int .i64 k1, .int .i64 a1, .int .i64 n1, .int .u64 r1, .slice ap1 m1 cap1] 36)) (.cells #[.int .i64 k2, .int .i64 a2, .int .i64 n2, .int .u64 r2, .slice ap2 m2 cap2] 36)).heap (heap_alloc_new w _) (fun h => h)
  have hg2 := heap_alloc_new (w.alloc (.cells #[.int .i64 k1, .int .i64 a1, .int .i64 n1, .int .u64 r1, .slice ap1 m1 cap1] 36)) (.cells #[.int .i64 k2, .int .i64 a2, .int .i64 n2, .int .u64 r2, .slice ap2 m2 cap2] 36)
  rw [World.size_alloc] at hg2
  have HK2 := Lib.hid hk2
  have HG1 := Lib.hid hg1
  have HG2 := Lib.hid hg2
  clear hk2 hg1 hg2
  go_enter Tryd.func4, Tryd.ntmps4
  go_wp2_with fail
  generalize (w.alloc (.cells #[.int .i64 k1, .int .i64 a1, .int .i64 n1, .int .u64 r1, .slice ap1 m1 cap1] 36)).alloc (.cells #[.int .i64 k2, .int .i64 a2, .int .i64 n2, .int .u64 r2, .slice ap2 m2 cap2] 36) = W2 at *
  obtain ⟨c0, c1, c2, c3, c4⟩ := blk5 HG1.out
  obtain ⟨d0, d1, d2, d3, d4⟩ := blk5 HG2.out
  have cf := fun i => frozenB HG1.out i
  have df := fun i => frozenB HG2.out i
  refine wp_plan 0 [1, 2, 3, 4, 5, 6, 7, 8] 9 [([10], 11)] [12] (by kernel_rfl) (by kernel_rfl) ?_
  simp only [wpPlan, pick, List.filterMap_cons, List.filterMap_nil, List.getElem?_cons_succ, List.getElem?_cons_zero]
  repeat (quiet_step ((first | (go_at_call 7; first | exact Calls.quiet_of_same (CB1.out _) | exact Calls.quiet_of_same (CB2.out _)) | (go_at_call 8; exact Calls.quiet_of_same (CT.out _)))))
  refine wpQuiet_nil ?_
  rintro _ ⟨q1, rfl⟩
  go_wp2_with fail
  refine Halt.mk ?_
  repeat (quiet_step (fail))
  refine wpQuiet_nil ?_
  rintro _ ⟨q2, rfl⟩
  go_wp2_with fail
  refine Halt.mk ?_
  repeat (quiet_step (fail))
  refine wpQuiet_nil ?_
  rintro _ ⟨q3, rfl⟩
  go_wp2_with fail
  have hg1 : (((((W2.drewN q1).setCell ⟨w.heap.size, 4, none⟩ (.slice ap1 e1.length cap1)).drewN q2).setCell ⟨w.heap.size + 1, 4, none⟩ (.slice ap2 e2.length cap2)).drewN q3).heap[w.heap.size]? = some (.cells #[.int .i64 k1, .int .i64 a1, .int .i64 n1, .int .u64 r1, .slice ap1 e1.length cap1] 36 (0, 0)) := by
    have := heap_set_ne (w := ((W2.drewN q1).setCell ⟨w.heap.size, 4, none⟩ (.slice ap1 e1.length cap1)).drewN q2) (p := ⟨w.heap.size + 1, 4, none⟩) (v := .slice ap2 e2.length cap2) (heap_setCell_same (w := W2.drewN q1) HG1.out 4 (.slice ap1 e1.length cap1)) (by simp)
    simpa using this
  have hg2 : (((((W2.drewN q1).setCell ⟨w.heap.size, 4, none⟩ (.slice ap1 e1.length cap1)).drewN q2).setCell ⟨w.heap.size + 1, 4, none⟩ (.slice ap2 e2.length cap2)).drewN q3).heap[w.heap.size + 1]? = some (.cells #[.int .i64 k2, .int .i64 a2, .int .i64 n2, .int .u64 r2, .slice ap2 e2.length cap2] 36 (0, 0)) := by
    have := heap_setCell_same (w := ((W2.drewN q1).setCell ⟨w.heap.size, 4, none⟩ (.slice ap1 e1.length cap1)).drewN q2) (heap_set_ne (w := W2.drewN q1) (p := ⟨w.heap.size, 4, none⟩) (v := .slice ap1 e1.length cap1) HG2.out (by simp)) 4 (.slice ap2 e2.length cap2)
    simpa using this
  have hk3 : Kept NoBlock w (((((W2.drewN q1).setCell ⟨w.heap.size, 4, none⟩ (.slice ap1 e1.length cap1)).drewN q2).setCell ⟨w.heap.size + 1, 4, none⟩ (.slice ap2 e2.length cap2)).drewN q3) := ((((HK2.out.drewN q1).own (Nat.le_refl _) 4 (.slice ap1 e1.length cap1)).drewN q2).own (Nat.le_succ _) 4 (.slice ap2 e2.length cap2)).drewN q3
  clear c0 c1 c2 c3 c4 d0 d1 d2 d3 d4 cf df
  generalize (((((W2.drewN q1).setCell ⟨w.heap.size, 4, none⟩ (.slice ap1 e1.length cap1)).drewN q2).setCell ⟨w.heap.size + 1, 4, none⟩ (.slice ap2 e2.length cap2)).drewN q3) = W3 at *
  have HK3 := Lib.hid hk3
  have HG1b := Lib.hid hg1
  have HG2b := Lib.hid hg2
  have hvd : DeedV W3 (.agg #[.int .i64 k1, .int .i64 a1, .int .i64 n1, .int .u64 r1, .slice ap1 e1.length cap1]) ⟨k1, a1, n1, r1, e1⟩ := ⟨_, rfl, HX1.out.keptNo hk3⟩
  have hve : DeedV W3 (.agg #[.int .i64 k2, .int .i64 a2, .int .i64 n2, .int .u64 r2, .slice ap2 e2.length cap2]) ⟨k2, a2, n2, r2, e2⟩ := ⟨_, rfl, HX2.out.keptNo hk3⟩
  have HVD := Lib.hid hvd
  have HVE := Lib.hid hve
  generalize e1.length = m3 at *
  generalize e2.length = m4 at *
  clear hk3 hg1 hg2 hvd hve HK2 HG1 HG2 HX1 HX2 CB1 CB2 CT
  refine (CT1.out _ _ HK3.out HVD.out).mono ?_
  rintro e w4 ⟨rfl, hk4⟩
  have HK4 := Lib.hid hk4
  obtain ⟨c0, c1, c2, c3, c4⟩ := blk5 (hk4.heap HG1b.out (fun h => h))
  clear hk4
  go_wp2_with fail
  refine (CT2.out _ _ (HVD.out.kept HK4.out)).mono ?_
  rintro e w5 ⟨rfl, hk5⟩
  have HK5 := Lib.hid (HK4.out.trans hk5)
  clear hk5 c0 c1 c2 c3 c4
  go_wp2_with fail
  refine (CP1.out _ (HK3.out.trans HK5.out)).mono ?_
  rintro e w6 h6
  obtain ⟨hk6, x0, x1, x2, x3, x4, rfl, hX⟩ := h6.told
  have HK6 := Lib.hid (HK5.out.trans hk6)
  obtain ⟨xap, xcap, rfl, _⟩ : ∃ ap cap, x4 = .slice ap (parsedD R).b.length cap ∧ True := by obtain ⟨bv, e, hb⟩ := hX; cases e; obtain ⟨ap, cap, rfl, _⟩ := hb.parts; exact ⟨_, _, rfl, trivial⟩
  have HX := Lib.hid hX
  clear hk6 h6 hX
  have HK7 := Lib.hid (HK6.out.alloc (.cells #[.int .i64 x0, .int .i64 x1, .int .i64 x2, .int .u64 x3, .slice xap (parsedD R).b.length xcap] 36))
  have HG7 := Lib.hid (heap_alloc_new w6 (.cells #[.int .i64 x0, .int .i64 x1, .int .i64 x2, .int .u64 x3, .slice xap (parsedD R).b.length xcap] 36))
  have HX7 := Lib.hid (HX.out.kept (Kept.allocd w6 (.cells #[.int .i64 x0, .int .i64 x1, .int .i64 x2, .int .u64 x3, .slice xap (parsedD R).b.length xcap] 36)))
  go_wp2_with fail
  generalize w6.alloc (.cells #[.int .i64 x0, .int .i64 x1, .int .i64 x2, .int .u64 x3, .slice xap (parsedD R).b.length xcap] 36) = W7 at *
  generalize w6.heap.size = g1 at *
  refine (CP2.out _ (HK3.out.trans HK7.out)).mono ?_
  rintro e w8 h8
  obtain ⟨hk8, y0, y1, y2, y3, y4, rfl, hY⟩ := h8.told
  have HK8 := Lib.hid (HK7.out.trans hk8)
  have HG8 := Lib.hid (hk8.heap HG7.out (fun h => h))
  have HX8 := Lib.hid (HX7.out.kept hk8)
  obtain ⟨yap, ycap, rfl, _⟩ : ∃ ap cap, y4 = .slice ap (parsedD R).b.length cap ∧ True := by obtain ⟨bv, e, hb⟩ := hY; cases e; obtain ⟨ap, cap, rfl, _⟩ := hb.parts; exact ⟨_, _, rfl, trivial⟩
  have HY := Lib.hid hY
  clear hk8 h8 hY HG7 HX7 HX HK7
  have HK9 := Lib.hid (HK8.out.alloc (.cells #[.int .i64 y0, .int .i64 y1, .int .i64 y2, .int .u64 y3, .slice yap (parsedD R).b.length ycap] 36))
  have HG9 := Lib.hid (heap_alloc_new w8 (.cells #[.int .i64 y0, .int .i64 y1, .int .i64 y2, .int .u64 y3, .slice yap (parsedD R).b.length ycap] 36))
  have HY9 := Lib.hid (HY.out.kept (Kept.allocd w8 (.cells #[.int .i64 y0, .int .i64 y1, .int .i64 y2, .int .u64 y3, .slice yap (parsedD R).b.length ycap] 36)))
  have HX9 := Lib.hid (HX8.out.kept (Kept.allocd w8 (.cells #[.int .i64 y0, .int .i64 y1, .int .i64 y2, .int .u64 y3, .slice yap (parsedD R).b.length ycap] 36)))
  have HF9 := Lib.hid ((Kept.allocd w8 (.cells #[.int .i64 y0, .int .i64 y1, .int .i64 y2, .int .u64 y3, .slice yap (parsedD R).b.length ycap] 36)).heap HG8.out (fun h => h))
  go_wp2_with fail
  generalize w8.alloc (.cells #[.int .i64 y0, .int .i64 y1, .int .i64 y2, .int .u64 y3, .slice yap (parsedD R).b.length ycap] 36) = W0 at *
  generalize w8.heap.size = g2 at *
  have csx := fun W (hk : Kept NoBlock W0 W) => (rsame _ _ _ _ W (HX9.out.kept hk) (HY9.out.kept hk))
  rw [HSELF.out] at csx
  have csd := fun W (hk : Kept NoBlock W0 W) => CSD.out _ _ W ((HVD.out.kept HK9.out).kept hk) ((HVE.out.kept HK9.out).kept hk)
  have crd := fun W (hk : Kept NoBlock W0 W) => CRD.out _ _ W ((HVD.out.kept HK9.out).kept hk) ((HVE.out.kept HK9.out).kept hk)
  have csr := fun W (hk : Kept NoBlock W0 W) => CSR.out _ W ((HVD.out.kept HK9.out).kept hk)
  have cal := fun W (hk : Kept NoBlock W0 W) => CAL.out W ((HK3.out.trans HK9.out).trans hk)
  have kg1 := fun W (hk : Kept NoBlock W0 W) => blk5 (hk.heap (HK9.out.heap HG1b.out (fun h => h)) (fun h => h))
  have kg2 := fun W (hk : Kept NoBlock W0 W) => blk5 (hk.heap (HK9.out.heap HG2b.out (fun h => h)) (fun h => h))
  have kx := fun W (hk : Kept NoBlock W0 W) => blk5 (hk.heap HF9.out (fun h => h))
  have ky := fun W (hk : Kept NoBlock W0 W) => blk5 (hk.heap HG9.out (fun h => h))
  generalize (parsedD R).b.length = m5 at *
  generalize parsedC R = co at *
  have HCSX := Lib.hid csx
  have HCSD := Lib.hid csd
  have HCRD := Lib.hid crd
  have HCSR := Lib.hid csr
  have HCAL := Lib.hid cal
  have KG1 := Lib.hid kg1
  have KG2 := Lib.hid kg2
  have KX := Lib.hid kx
  have KY := Lib.hid ky
  have HKW := Lib.hid (HK3.out.trans HK9.out)
  clear csx csd crd csr cal kg1 kg2 kx ky CSD CRD CSR CAL CP1 CP2 CT1 CT2 HX8 HX9 HY HY9 HF9 HG8 HG9 HVD HVE HG1b HG2b HK3 HK4 HK5 HK6 HK8 HK9
  refine wp_planC (fun W => Kept NoBlock W0 W) 36 [.seg [0, 1, 2, 3, 4, 5, 6, 7, 8, 9, 10] 11, .flt 12, .flt 13, .flt 14, .flt 15, .flt 16, .flt 17, .flt 18, .flt 22, .flt 23, .seg [19, 20] 21, .seg [] 24, .seg [25, 26, 27, 28, 29] 30, .seg [31, 32] 33] [34, 35] (by kernel_rfl) (by kernel_rfl) (fun _ _ _ dst _ h => by cases dst <;> exact h) (fun _ _ h => h.drewN _) (Kept.refl _ _) (fun q0 => ?_)
  simp only [wpPlanC, pick, List.filterMap_cons, List.filterMap_nil, List.getElem?_cons_succ, List.getElem?_cons_zero]
  obtain ⟨p0, p1, p2, p3, p4⟩ := KX.out W0 (Kept.refl _ _)
  obtain ⟨s0, s1, s2, s3, s4⟩ := KY.out W0 (Kept.refl _ _)
  repeat (quiet_step (fail))
  refine wpQuiet_nil ?_
  rintro _ ⟨q5, rfl⟩
  go_wp2_with fail
  refine (HCSX.out _ ((Kept.refl _ _).drewN _)).mono ?_
  rintro e w1 ⟨rfl, hk⟩
  have HK1 := Lib.hid (((Kept.refl NoBlock W0).drewN _).trans hk)
  clear hk p0 p1 p2 p3 p4 s0 s1 s2 s3 s4
  go_wp2_with fail
  refine Halt.mk ⟨.inr HK1.out, ?_⟩
  iterate 2 (refine wpFloat_ex rfl ?_; apply Exists.intro; refine ⟨fun w' hw' => ?_, ?_⟩; (go_simp; first | rfl | exact ⟨rfl, rfl⟩); simp only [Act.put, List.setIfInBounds_toArray, List.set_cons_succ, List.set_cons_zero])
  iterate 3 (apply Exists.intro; refine ⟨fun _ w' hw' => ?_, fun h => ?_, ?_⟩; (go_simp; first | rfl | exact ⟨rfl, rfl⟩); (simp [Region.wanted, yielded] at h); simp only [Act.put, List.setIfInBounds_toArray, List.set_cons_succ, List.set_cons_zero])
  iterate 2 (refine wpFloat_ex rfl ?_; apply Exists.intro; refine ⟨fun w' hw' => ?_, ?_⟩; (go_simp; first | rfl | exact ⟨rfl, rfl⟩); simp only [Act.put, List.setIfInBounds_toArray, List.set_cons_succ, List.set_cons_zero])
  iterate 2 (apply Exists.intro; refine ⟨fun _ w' hw' => ?_, fun h => ?_, ?_⟩; (obtain ⟨u0, u1, u2, u3, u4⟩ := KG1.out w' hw'; obtain ⟨v0, v1, v2, v3, v4⟩ := KG2.out w' hw'; go_simp; first | rfl | exact ⟨rfl, rfl⟩); (simp [Region.wanted, yielded] at h); simp only [Act.put, List.setIfInBounds_toArray, List.set_cons_succ, List.set_cons_zero])
  obtain ⟨p0, p1, p2, p3, p4⟩ := KG1.out _ HK1.out
  obtain ⟨s0, s1, s2, s3, s4⟩ := KG2.out _ HK1.out
  repeat (quiet_step (fail))
  refine wpQuiet_nil ?_
  rintro _ ⟨q6, rfl⟩
  go_wp2_with fail
  refine (HCSD.out _ (HK1.out.drewN _)).mono ?_
  rintro e w2 ⟨rfl, hk⟩
  have HK2 := Lib.hid ((HK1.out.drewN _).trans hk)
  clear hk p0 p1 p2 p3 p4 s0 s1 s2 s3 s4
  go_wp2_with fail
  refine Halt.mk ⟨.inr HK2.out, ?_⟩
  go_wp2_with fail
  refine (HCRD.out _ HK2.out).mono ?_
  rintro e w3 ⟨rfl, hk⟩
  have HK3 := Lib.hid (HK2.out.trans hk)
  clear hk
  go_wp2_with fail
  refine Halt.mk ⟨.inr HK3.out, ?_⟩
  obtain ⟨p0, p1, p2, p3, p4⟩ := KG1.out _ HK3.out
  repeat (quiet_step (fail))
  refine wpQuiet_nil ?_
  rintro _ ⟨q7, rfl⟩
  go_wp2_with fail
  refine (HCSR.out _ (HK3.out.drewN _)).mono ?_
  rintro e w4 ⟨rfl, hk⟩
  have HK4 := Lib.hid ((HK3.out.drewN _).trans hk)
  clear hk p0 p1 p2 p3 p4
  go_wp2_with fail
  refine Halt.mk ⟨.inr HK4.out, ?_⟩
  repeat (quiet_step (fail))
  refine wpQuiet_nil ?_
  rintro _ ⟨q8, rfl⟩
  go_wp2_with fail
  refine (HCAL.out _ (HK4.out.drewN _)).mono ?_
  rintro e w5 ⟨rfl, hk⟩
  have HK5 := Lib.hid ((HK4.out.drewN _).trans hk)
  clear hk
  go_wp2_with fail
  refine Halt.mk ⟨.inr HK5.out, ?_⟩
  repeat (quiet_step (fail))
  refine wpQuiet_nil ?_
  rintro _ ⟨q9, rfl⟩
  go_wp2_with fail
  go_ret
  exact ⟨rfl, HKW.out.trans (HK5.out.drewN _)⟩
end Go.Proofs.YtdinkdmkbfbjbaaDoor
namespace Go.Proofs.YtdinkdmkbfbjbaaDoor
open Go.RowKit
attribute [local go_sem] fold_part fold_some fold_some' partAt_zero

theorem cutP_bytes {w : World} {p : Deed × Value} (h : BytesV w p.2 p.1.b) : BytesV w (cutP p).2 (cutP p).1.b := by
  obtain ⟨d, v⟩ := p
  simp only at h
  obtain ⟨ap, cap, rfl, hc, _⟩ := h.parts
  show BytesV w (.slice ap (d.b.take 2000).length cap) (d.b.take 2000)
  have := BytesV.front h (d.b.take 2000).length (by rw [List.length_take]; omega)
  rwa [take_len] at this

set_option maxRecDepth 100000 in
set_option maxHeartbeats 1600000 in
theorem lfew (v : Value) (ps : List (Deed × Value)) (w : World) (h : DeedsV w v ps) (hb : BsV w ps) (hf : ∀ p ∈ ps, ∃ ap c, p.2 = .slice ap p.1.b.length c ∧ p.1.b.length ≤ c) (hlen : ps.length ≤ 9223372036854775807) :
    Calls Tryd.prog 20 #[v] w fun e w' => ∃ v', e = .returned v' ∧ OwnD w' w.heap.size v' ((ps.take 30).map cutP) ∧ Kept NoBlock w w' := by
  have hDV := h
  obtain ⟨ap, cap, rfl, hH, hcap, _⟩ := h
  have HDV := Lib.hid hDV
  have HF := Lib.hid hf
  have HB := Lib.hid hb
  have hn : (ps.length : Int) ≤ 9223372036854775807 := by omega
  obtain ⟨n, hN⟩ : ∃ n, n = ps.length := ⟨_, rfl⟩
  rw [← hN] at HDV hcap hn ⊢
  have HN := Lib.hid hN
  clear hDV hH hf hb hlen hN
  go_enter Tryd.func20, Tryd.ntmps20
  go_wp2
  go_loopw [3, 4] (fun vo vi wr => ∃ i : Nat, vi = .int .i64 i ∧ i ≤ n ∧ i ≤ 30 ∧ OwnD wr w.heap.size vo ((ps.take i).map cutP) ∧ Kept NoBlock w wr) (fun _ vi _ => 30 - (intOf vi).toNat)
  case atStart => exact ⟨0, rfl, Nat.zero_le _, Nat.zero_le _, OwnD.nil _ _, Kept.refl _ _⟩
  case round =>
    obtain ⟨i, rfl, hi, hi30, hown, hK⟩ := hrel
    obtain ⟨qs, hqs⟩ : ∃ qs, qs = (ps.take i).map cutP := ⟨_, rfl⟩
    rw [← hqs] at hown
    have hql : qs.length ≤ 30 := by rw [hqs, List.length_map, List.length_take]; omega
    obtain ⟨ap3, cap3, rfl, _⟩ := hown.form
    have HQS := Lib.hid hqs
    have HO := Lib.hid hown
    clear hqs
    have HK := Lib.hid hK
    have hsz := hK.size
    clear hown hK
    by_cases hlt : i < n
    · have hltI : (i : Int) < (n : Int) := by omega
      by_cases h30 : i < 30
      · have h30I : (i : Int) < 30 := by omega
        obtain ⟨p, hp⟩ : ∃ p, ps[i]? = some p := ⟨ps[i]'(by have := HN.out; omega), List.getElem?_eq_getElem _⟩
        obtain ⟨ad, rfl, a0, a1, a2, a3, a4⟩ := (HDV.out.kept HK.out).at hp
        obtain ⟨bp, bc, hbv, hbl⟩ := HF.out p (List.mem_of_getElem? hp)
        rw [hbv] at a4
        have cb := fun W => lcutV bp bc p.1.b W hbl
        have hcw : cutW p = .slice bp (p.1.b.take 2000).length bc := by unfold cutW; rw [hbv]
        have htk : (ps.take (i + 1)).map cutP = qs ++ [cutP p] := by rw [HQS.out, List.take_add_one, hp]; simp
        have HCB := Lib.hid cb
        have HCW := Lib.hid hcw
        have HTK := Lib.hid htk
        have hwl : w.heap.size ≤ wr.heap.size := hsz
        generalize (p.1.b.take 2000).length = m at *
        clear cb hcw htk hbv hbl hp
        go_wp2_with fail
        refine (HCB.out _).mono ?_
        rintro e w2 ⟨rfl, rfl⟩
        have hnw : ((wr.alloc (.cells #[.int .i64 p.1.kind, .int .i64 p.1.a, .int .i64 p.1.n, .int .u64 p.1.draw, .slice bp m bc] 36)).alloc (.cells #[.int .i64 p.1.kind, .int .i64 p.1.a, .int .i64 p.1.n, .int .u64 p.1.draw, .slice bp m bc] 36)).heap[wr.heap.size + 1]? = some (.cells #[.int .i64 (cutP p).1.kind, .int .i64 (cutP p).1.a, .int .i64 (cutP p).1.n, .int .u64 (cutP p).1.draw, (cutP p).2] 36 (0, 0)) := by
          have := heap_alloc_new (wr.alloc (.cells #[.int .i64 p.1.kind, .int .i64 p.1.a, .int .i64 p.1.n, .int .u64 p.1.draw, .slice bp m bc] 36)) (.cells #[.int .i64 p.1.kind, .int .i64 p.1.a, .int .i64 p.1.n, .int .u64 p.1.draw, .slice bp m bc] 36)
          rw [World.size_alloc] at this
          rw [this]
          show _ = some (Obj.cells #[.int .i64 p.1.kind, .int .i64 p.1.a, .int .i64 p.1.n, .int .u64 p.1.draw, cutW p] 36 (0, 0))
          rw [HCW.out]
        have HNW := Lib.hid hnw
        have hone : (cutP p).2.oneCell' = true := by show (cutW p).oneCell' = true; rw [HCW.out]; rfl
        have HONE := Lib.hid hone
        clear hnw hone
        go_wp2_with (at_builtin; refine wpList_appD rfl _ _ (by rfl) w.heap.size _ qs (by rfl) ((HO.out.alloc _).alloc _) (wr.heap.size + 1) (cutP p) (by rfl) HNW.out HONE.out (by omega) (by simp; omega) ?_; intro v3 w3 hown3 hg3; refine Hid.out ?_)
        have HK3 := Lib.hid (Kept.appD ((HK.out.alloc _).alloc _) ((World.ownsRow.alloc (World.ownsRow.alloc HO.out _) _) : OwnD _ _ _ qs) (Nat.le_refl _) hg3)
        have HO3 := Lib.hid hown3
        obtain ⟨ap5, cap5, rfl, _⟩ := hown3.form
        clear hown3 hg3
        refine Lib.hid ?_
        go_wp2
        go_roundw
        case rel => exact ⟨i + 1, by go_num, by omega, by omega, by rw [HTK.out]; exact HO3.out, HK3.out⟩
        case measure => simp [intOf]; omega
      · obtain rfl : i = 30 := by omega
        go_wp2
        go_ret
        exact ⟨_, rfl, by rw [← HQS.out]; exact HO.out, HK.out⟩
    · obtain rfl : i = n := by omega
      have hfin : (ps.take 30).map cutP = qs := by rw [HQS.out, List.take_of_length_le (by have := HN.out; omega), List.take_of_length_le (by have := HN.out; omega)]
      have HFIN := Lib.hid hfin
      clear hfin
      go_wp2
      go_ret
      exact ⟨_, rfl, by rw [HFIN.out]; exact HO.out, HK.out⟩
end Go.Proofs.YtdinkdmkbfbjbaaDoor
namespace Go.Proofs.YtdinkdmkbfbjbaaDoor
open Go.RowKit
attribute [local go_sem] fold_part fold_some fold_some' partAt_zero

/-- What came in: the deeds of a row, and their ranges. -/
def NumsL (ps : List (Deed × Value)) : Prop := ∀ p ∈ ps, p.1.Nums ∧ ∃ ap c, p.2 = .slice ap p.1.b.length c ∧ p.1.b.length ≤ c
/-- The deeds that are looked at. -/
def fewP (ps : List (Deed × Value)) : List (Deed × Value) := (ps.take 30).map cutP
theorem fewP_fits {ps : List (Deed × Value)} (h : NumsL ps) : FitsL (fewP ps) := by
  intro q hq
  obtain ⟨p, hp, rfl⟩ := List.mem_map.1 hq
  exact (h p (List.mem_of_mem_take hp)).1.cut
theorem fewP_bytes {w : World} {ps : List (Deed × Value)} (h : BsV w ps) : BsV w (fewP ps) := by
  intro q hq
  obtain ⟨p, hp, rfl⟩ := List.mem_map.1 hq
  exact cutP_bytes (h p (List.mem_of_mem_take hp))
theorem fewP_len (ps : List (Deed × Value)) : (fewP ps).length ≤ 30 := by unfold fewP; rw [List.length_map, List.length_take]; omega

set_option maxRecDepth 100000 in
set_option maxHeartbeats 1600000 in
theorem law_texts (c : Conf) (hc : c.Fits) (v : Value) (ps : List (Deed × Value)) (w : World) (hV : Vs w) (hM : Mx w) (h : DeedsV w v ps) (hb : BsV w ps) (hn : NumsL ps) (hlen : ps.length ≤ 9223372036854775807) :
    Calls Tryd.prog 5 #[confV c, v] w fun e w' => e = .returned (.bool true) ∧ Kept NoBlock w w' := by
  have cf := fun W (hk : Kept NoBlock w W) => lfew v ps W (h.kept hk) (hb.kept hk) (fun p hp => (hn p hp).2) hlen
  have cp := fun v' W (hk : Kept NoBlock w W) (h' : DeedsV W v' (fewP ps)) => pprint c hc v' (fewP ps) W (hV.below hk.toB) h' ((fewP_bytes hb).kept hk) (fewP_fits hn) (fewP_len ps)
  have cr := fun v' W (hk : Kept NoBlock w W) (h' : DeedsV W v' (fewP ps)) => rprint c hc v' (fewP ps) W h' ((fewP_bytes hb).kept hk) (fewP_fits hn) (fewP_len ps)
  have cal := fun W (hk : Kept NoBlock w W) => lalive W (hV.below hk.toB) (hM.kept hk)
  obtain ⟨ap, cap, rfl, _⟩ := h
  unfold fewP at cp cr
  generalize (ps.take 30).map cutP = qs at *
  generalize printD c (qs.map (·.1)) = T at *
  generalize ps.length = n at *
  generalize (⟨T.1.toArray⟩ : ByteArray) = S at *
  obtain ⟨T1, T2⟩ := T
  simp only at cp cr
  have CF := Lib.hid cf
  have CP := Lib.hid cp
  have CR := Lib.hid cr
  have CAL := Lib.hid cal
  clear cf cp cr cal hV hM hb hn hlen hc
  have HK1 := Lib.hid (Kept.allocd w (.cells #[.int .i64 c.c0, .int .i64 c.c1, .int .i64 c.c2, .int .i64 c.c3, .int .i64 c.c4] 52))
  have HG1 := Lib.hid (heap_alloc_new w (.cells #[.int .i64 c.c0, .int .i64 c.c1, .int .i64 c.c2, .int .i64 c.c3, .int .i64 c.c4] 52))
  unfold confV at CP CR ⊢
  go_enter Tryd.func5, Tryd.ntmps5
  go_wp2_with fail
  generalize w.alloc (.cells #[.int .i64 c.c0, .int .i64 c.c1, .int .i64 c.c2, .int .i64 c.c3, .int .i64 c.c4] 52) = W1 at *
  refine (CF.out _ HK1.out).mono ?_
  rintro e w2 ⟨v', rfl, ho, hk⟩
  obtain ⟨ap2, cap2, rfl, _⟩ := ho.form
  have HO := Lib.hid ho.deeds
  have HK2 := Lib.hid (HK1.out.trans hk)
  have HG2 := Lib.hid (hk.heap HG1.out (fun h => h))
  obtain ⟨c0, c1, c2, c3, c4⟩ := blk5 HG2.out
  clear ho hk
  go_wp2_with fail
  refine (CP.out _ _ HK2.out HO.out).mono ?_
  rintro e w3 ⟨rfl, hk⟩
  have HO3 := Lib.hid (HO.out.kept hk)
  have HK3 := Lib.hid (HK2.out.trans hk)
  have HG3 := Lib.hid (hk.heap HG2.out (fun h => h))
  clear hk c0 c1 c2 c3 c4
  obtain ⟨c0, c1, c2, c3, c4⟩ := blk5 HG3.out
  go_wp2_with fail
  refine (CR.out _ _ HK3.out HO3.out).mono ?_
  rintro e w4 ⟨rfl, hk⟩
  have HK4 := Lib.hid (HK3.out.trans hk)
  clear hk c0 c1 c2 c3 c4
  go_wp2_with fail
  refine (CAL.out _ HK4.out).mono ?_
  rintro e w5 ⟨rfl, hk⟩
  go_wp2_with fail
  go_ret
  exact ⟨rfl, HK4.out.trans hk⟩
end Go.Proofs.YtdinkdmkbfbjbaaDoor
