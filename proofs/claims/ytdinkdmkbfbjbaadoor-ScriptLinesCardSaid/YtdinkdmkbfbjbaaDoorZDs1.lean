/- Merged: Inputs cut; the law of quoted texts; The law of lines; What all laws' rows share: a law that returns true and leaves what was there; What the rows list: a world in which it holds; what the walks take from it; The rows' wrap that hands the contract what the row lists and the world's shape; a deed that came in; Rows of deeds in memory. -/
import Derived.Test.YtdinkdmkbfbjbaaDoorZAl
import Derived.Test.YtdinkdmkbfbjbaaDoorRows
import Derived.Test.YtdinkdmkbfbjbaaDoorZBd
import Derived.WalkKit
import Derived.ProofKit
import Derived.OpenShut
import Derived.JoinedCond
import Derived.Test.YtdinkdmkbfbjbaaDoorZFu
import Derived.Lib.LaidIn
import Derived.Lib.LaidTab
import Derived.Stop.LaidErr
import Derived.LaidLaws
import Derived.ChangeSame
import Derived.ChangeVars
import Derived.ChangeMaps5
import Derived.JoinedOf
import Derived.JoinedAt
import Derived.RowKit
import Derived.RowKit3
import Derived.Handed
set_option linter.all false
namespace Go.Proofs.YtdinkdmkbfbjbaaDoor
open Go.RowKit
attribute [local go_sem] fold_part fold_some fold_some' partAt_zero

theorem lcutB (v : Value) (b : Bs) (w : World) (h : BytesV w v b) : Calls Tryd.prog 7 #[v] w fun e w' => ∃ u, e = .returned u ∧ BytesV w u (b.take 2000) ∧ w = w' ∧ vblk u = vblk v := by
  obtain ⟨ap, cap, rfl, hc, _⟩ := h.parts
  have HB := Lib.hid h
  clear h
  by_cases hl : 2000 < b.length
  · generalize hn : b.length = n at *
    have HN := Lib.hid hn
    clear hn
    go_enter Tryd.func7, Tryd.ntmps7
    go_wp2
    go_ret
    exact ⟨_, rfl, HB.out.front 2000 (by omega), rfl, (vblk_slice ap 2000 cap).trans (vblk_slice ap n cap).symm⟩
  · generalize hn : b.length = n at *
    have HN := Lib.hid hn
    clear hn
    go_enter Tryd.func7, Tryd.ntmps7
    go_wp2
    go_ret
    exact ⟨_, rfl, by rw [List.take_of_length_le (by rw [HN.out]; omega)]; exact HB.out, rfl, rfl⟩

/-- The same, its value told. -/
theorem lcutV (ap : Option Addr) (cap : Nat) (b : Bs) (w : World) (hc : b.length ≤ cap) : Calls Tryd.prog 7 #[.slice ap b.length cap] w fun e w' => e = .returned (.slice ap (b.take 2000).length cap) ∧ w' = w := by
  by_cases hl : 2000 < b.length
  · have e1 : (b.take 2000).length = 2000 := by rw [List.length_take]; omega
    rw [e1]
    generalize hn : b.length = n at *
    clear hn e1
    go_enter Tryd.func7, Tryd.ntmps7
    go_wp2
    go_ret
    exact ⟨rfl, rfl⟩
  · have e1 : (b.take 2000).length = b.length := by rw [List.length_take]; omega
    rw [e1]
    generalize hn : b.length = n at *
    clear hn e1
    go_enter Tryd.func7, Tryd.ntmps7
    go_wp2
    go_ret
    exact ⟨rfl, rfl⟩

theorem lcutT (l : Bs) (w : World) : Calls Tryd.prog 8 #[.string ⟨l.toArray⟩] w fun e w' => e = .returned (.string ⟨(l.take 2000).toArray⟩) ∧ w = w' := by
  obtain ⟨S, hS⟩ : ∃ S : ByteArray, S = ⟨l.toArray⟩ := ⟨_, rfl⟩
  have hSz := str_size hS
  have hx : S.extract 0 2000 = ⟨(l.take 2000).toArray⟩ := by rw [hS]; exact str_take l 2000
  rw [← hS]
  by_cases hl : 2000 < S.size
  · have hlI : (2000 : Int) < (S.size : Int) := by omega
    have HX := Lib.hid hx
    clear hS hSz hx
    go_enter Tryd.func8, Tryd.ntmps8
    go_wp2
    go_ret
    exact ⟨congrArg (fun s => Ending.returned (Value.string s)) HX.out, rfl⟩
  · have hlI : ¬ ((2000 : Int) < (S.size : Int)) := by omega
    have ht : S = ⟨(l.take 2000).toArray⟩ := by rw [List.take_of_length_le (by omega)]; exact hS
    have HT := Lib.hid ht
    clear hS hSz hx ht
    go_enter Tryd.func8, Tryd.ntmps8
    go_wp2
    go_ret
    exact ⟨congrArg (fun s => Ending.returned (Value.string s)) HT.out, rfl⟩

theorem conv_of {w : World} {ap : Option Addr} {n cap : Nat} {l : Bs} (h : BytesV w (.slice ap n cap) l) : (convert 22 9 (.slice ap n cap)).run Tryd.prog w = .ok (.string ⟨l.toArray⟩) w :=
  conv_bytes w 22 9 5 Tryd.underlying22 Tryd.underlying5 Tryd.underlying9 cap (RowV.holds h).1

set_option maxRecDepth 100000 in
set_option maxHeartbeats 1600000 in
theorem law_quotes (v : Value) (b0 l0 : Bs) (w : World) (hV : Vs w) (hM : Mx w) (h : BytesV w v b0) :
    Calls Tryd.prog 3 #[v, .string ⟨l0.toArray⟩] w fun e w' => e = .returned (.bool true) ∧ Kept NoBlock w w' := by
  have cb := lcutB v b0 w h
  have ct := lcutT l0 w
  generalize hb : b0.take 2000 = b at *
  generalize hl : l0.take 2000 = l at *
  have hbl : b.length ≤ 2000 := by rw [← hb, List.length_take]; omega
  have hll : l.length ≤ 2000 := by rw [← hl, List.length_take]; omega
  have c1 := fun W => punq l (by omega) W
  have c2 := fun W => runq l (by omega) W
  have c3 := fun u W (h : BytesV W u b) => pquote u b W h (by omega)
  have c4 := fun u W (h : BytesV W u b) => rquote u b W h (by omega)
  have c5 := fun W (hk : Kept NoBlock w W) => lalive W (hV.below hk.toB) (hM.kept hk)
  obtain ⟨ap0, cap0, rfl, _, _⟩ := h.parts
  generalize (⟨l0.toArray⟩ : ByteArray) = S0 at *
  generalize (⟨l.toArray⟩ : ByteArray) = S at *
  generalize (⟨(quote b).toArray⟩ : ByteArray) = Q at *
  generalize b0.length = n0 at *
  generalize unq l = M at *
  have C1 := Lib.hid c1
  have C2 := Lib.hid c2
  have C3 := Lib.hid c3
  have C4 := Lib.hid c4
  have C5 := Lib.hid c5
  have CB := Lib.hid cb
  have CT := Lib.hid ct
  clear c1 c2 c3 c4 c5 cb ct hb hl hbl hll hV hM h
  go_enter Tryd.func3, Tryd.ntmps3
  go_wp2_with fail
  refine CB.out.mono ?_
  rintro e w1 ⟨u, rfl, hu, rfl, _⟩
  have HU := Lib.hid hu
  obtain ⟨ap1, cap1, rfl, _⟩ := hu.parts
  clear hu
  go_wp2_with fail
  refine CT.out.mono ?_
  rintro e w1 ⟨rfl, rfl⟩
  go_wp2_with fail
  refine (C1.out _).mono ?_
  rintro e w1 ⟨hk1, he1⟩
  have HK1 := Lib.hid hk1
  clear hk1
  cases M with
  | error n =>
    obtain rfl := he1
    go_wp2_with fail
    refine (C2.out _).mono ?_
    rintro e w2 ⟨hk2, rfl⟩
    have HK2 := Lib.hid (HK1.out.trans hk2)
    clear hk2
    go_wp2_with fail
    refine (C3.out _ _ (HU.out.keptNo HK2.out)).mono ?_
    rintro e w3 ⟨rfl, hk3⟩
    have HK3 := Lib.hid (HK2.out.trans hk3)
    clear hk3
    go_wp2_with fail
    refine (C4.out _ _ (HU.out.keptNo HK3.out)).mono ?_
    rintro e w4 ⟨rfl, hk4⟩
    have HK4 := Lib.hid (HK3.out.trans hk4)
    clear hk4
    have e1 := conv_of (BytesV.nil w4)
    go_wp2_with fail
    refine (C5.out _ HK4.out).mono ?_
    rintro e w5 ⟨rfl, hk5⟩
    clear e1
    go_wp2_with fail
    go_ret
    exact ⟨rfl, HK4.out.trans hk5⟩
  | ok x =>
    obtain ⟨v1, rfl, ho1⟩ := he1
    obtain ⟨ap3, cap3, rfl, _⟩ := ho1.bytes.parts
    have HO1 := Lib.hid ho1
    clear ho1
    go_wp2_with fail
    refine (C2.out _).mono ?_
    rintro e w2 ⟨hk2, v2, rfl, ho2⟩
    obtain ⟨ap4, cap4, rfl, _⟩ := ho2.bytes.parts
    have HO2 := Lib.hid ho2
    have HO1b := Lib.hid (HO1.out.kept hk2)
    have HK2 := Lib.hid (HK1.out.trans hk2)
    clear hk2 ho2
    go_wp2_with fail
    refine (C3.out _ _ (HU.out.keptNo HK2.out)).mono ?_
    rintro e w3 ⟨rfl, hk3⟩
    have HO1c := Lib.hid (HO1b.out.kept hk3)
    have HO2c := Lib.hid (HO2.out.kept hk3)
    have HK3 := Lib.hid (HK2.out.trans hk3)
    clear hk3
    go_wp2_with fail
    refine (C4.out _ _ (HU.out.keptNo HK3.out)).mono ?_
    rintro e w4 ⟨rfl, hk4⟩
    have hb1 := (HO1c.out.kept hk4).bytes
    have hb2 := (HO2c.out.kept hk4).bytes
    have HK4 := Lib.hid (HK3.out.trans hk4)
    clear hk4
    have e1 := conv_of hb1
    have e2 := conv_of hb2
    generalize (⟨x.toArray⟩ : ByteArray) = X at *
    clear hb1 hb2 HO1 HO1b HO1c HO2 HO2c C1 C2
    generalize x.length = m at *
    go_wp2_with fail
    refine (C5.out _ HK4.out).mono ?_
    rintro e w5 ⟨rfl, hk5⟩
    clear e1 e2
    go_wp2_with fail
    go_ret
    exact ⟨rfl, HK4.out.trans hk5⟩
end Go.Proofs.YtdinkdmkbfbjbaaDoor
namespace Go.Proofs.YtdinkdmkbfbjbaaDoor
open Go.RowKit
attribute [local go_sem] fold_part fold_some fold_some' partAt_zero

/-- A deed with its bytes cut. -/
def Deed.cut (d : Deed) : Deed := ⟨d.kind, d.a, d.n, d.draw, d.b.take 2000⟩
/-- The ranges of a deed's numbers. -/
structure Deed.Nums (d : Deed) : Prop where
  kind : -9223372036854775808 ≤ d.kind ∧ d.kind ≤ 9223372036854775807
  a : -9223372036854775808 ≤ d.a ∧ d.a ≤ 9223372036854775807
  n : -9223372036854775808 ≤ d.n ∧ d.n ≤ 9223372036854775807
  draw : d.draw < 18446744073709551616
theorem Deed.Nums.cut {d : Deed} (h : d.Nums) : d.cut.Fits := ⟨h.kind, h.a, h.n, h.draw, by unfold Deed.cut; simp only [List.length_take]; omega⟩

theorem take_len (l : Bs) (n : Nat) : l.take (l.take n).length = l.take n := by
  rw [List.length_take]
  rcases Nat.le_total n l.length with h | h
  · rw [Nat.min_eq_left h]
  · rw [Nat.min_eq_right h, List.take_length, List.take_of_length_le h]

theorem blk5f {w : World} {g : Nat} {a b c d e : Value} {T : TypeId} (h : w.heap[g]? = some (.cells #[a, b, c, d, e] T (0, 0))) (i : Nat) : w.frozen? ⟨g, i, none⟩ = false := frozenB h i

def parsedD (R : Option Deed) : Deed := match R with | some d => d | none => ⟨0, 0, 0, 0, []⟩
def parsedC (R : Option Deed) : Int := match R with | some _ => 0 | none => 251
theorem ParseEnd.told {R : Option Deed} {w w' : World} {e : Ending} (h : ParseEnd R w e w') : Kept NoBlock w w' ∧ ∃ k a n u bv, e = .returned (.tuple #[.agg #[.int .i64 k, .int .i64 a, .int .i64 n, .int .u64 u, bv], .int .i64 (parsedC R)]) ∧ DeedV w' (.agg #[.int .i64 k, .int .i64 a, .int .i64 n, .int .u64 u, bv]) (parsedD R) := by
  refine ⟨h.1, ?_⟩
  cases R with
  | none => obtain ⟨_, v, rfl, h⟩ := h; obtain ⟨bv, rfl, hb⟩ := h; exact ⟨_, _, _, _, _, rfl, _, rfl, hb⟩
  | some d => obtain ⟨_, v, rfl, h⟩ := h; obtain ⟨bv, rfl, hb⟩ := h; exact ⟨_, _, _, _, _, rfl, _, rfl, hb⟩

set_option maxRecDepth 100000 in
set_option maxHeartbeats 3200000 in
theorem law_lines (v1 v2 : Value) (D E : Deed) (l0 : Bs) (w : World) (hV : Vs w) (hM : Mx w) (h1 : DeedV w v1 D) (h2 : DeedV w v2 E) (hD : D.Nums) (hE : E.Nums) :
    Calls Tryd.prog 4 #[v1, v2, .string ⟨l0.toArray⟩] w fun e w' => e = .returned (.bool true) ∧ Kept NoBlock w w' := by
  have hDF := hD.cut
  have hEF := hE.cut
  have ct := fun W => (lcutT l0 W).mono (R' := fun e w' => e = .returned (.string ⟨(l0.take 2000).toArray⟩) ∧ w' = W) (fun _ _ h => ⟨h.1, h.2.symm⟩)
  generalize hl : l0.take 2000 = l at *
  have hll : l.length ≤ 2000 := by rw [← hl, List.length_take]; omega
  have cp1 := fun W (hk : Kept NoBlock w W) => pparse l (by omega) W (hV.below hk.toB) (hM.kept hk)
  have cp2 := fun W (hk : Kept NoBlock w W) => rparse l (by omega) W (hV.below hk.toB)
  have cal := fun W (hk : Kept NoBlock w W) => lalive W (hV.below hk.toB) (hM.kept hk)
  have ct1 := fun v W (hk : Kept NoBlock w W) (h : DeedV W v D.cut) => ptext v _ W (hV.below hk.toB) h hDF
  have ct2 := fun v W (h : DeedV W v D.cut) => rtext v _ W h hDF
  generalize (⟨l0.toArray⟩ : ByteArray) = S0 at *
  generalize (⟨l.toArray⟩ : ByteArray) = S at *
  generalize parseP l = R at *
  obtain ⟨u1, rfl, hb1⟩ := h1
  obtain ⟨u2, rfl, hb2⟩ := h2
  obtain ⟨ap1, cap1, rfl, hc1, _⟩ := hb1.parts
  obtain ⟨ap2, cap2, rfl, hc2, _⟩ := hb2.parts
  have cb1 := fun W => lcutV ap1 cap1 D.b W hc1
  have cb2 := fun W => lcutV ap2 cap2 E.b W hc2
  have hx1 : BytesV w (.slice ap1 (D.b.take 2000).length cap1) (D.b.take 2000) := by have := hb1.front (D.b.take 2000).length (by rw [List.length_take]; omega); rwa [take_len] at this
  have hx2 : BytesV w (.slice ap2 (E.b.take 2000).length cap2) (E.b.take 2000) := by have := hb2.front (E.b.take 2000).length (by rw [List.length_take]; omega); rwa [take_len] at this
  have hln1 : (D.b.take 2000).length ≤ cap1 := by rw [List.length_take]; omega
  have hln2 : (E.b.take 2000).length ≤ cap2 := by rw [List.length_take]; omega
  obtain ⟨k1, a1, n1, r1, b1⟩ := D
  obtain ⟨k2, a2, n2, r2, b2⟩ := E
  unfold Deed.cut at ct1 ct2
  simp only at hx1 hx2 cb1 cb2 ct1 ct2 hln1 hln2 ⊢
  have csd := fun v u W (h : DeedV W v ⟨k1, a1, n1, r1, b1.take 2000⟩) (h' : DeedV W u ⟨k2, a2, n2, r2, b2.take 2000⟩) => psame v u _ _ W h h'
  have crd := fun v u W (h : DeedV W v ⟨k1, a1, n1, r1, b1.take 2000⟩) (h' : DeedV W u ⟨k2, a2, n2, r2, b2.take 2000⟩) => rsame v u _ _ W h h'
  have csr := fun v W (h : DeedV W v ⟨k1, a1, n1, r1, b1.take 2000⟩) => psame v v _ _ W h h
  generalize textD ⟨k1, a1, n1, r1, b1.take 2000⟩ = T at *
  have hself : ∀ d : Deed, sameD d d = true := fun d => by simp [sameD]
  rw [hself] at csr
  generalize sameD ⟨k1, a1, n1, r1, b1.take 2000⟩ ⟨k2, a2, n2, r2, b2.take 2000⟩ = SD at *
  clear hb1 hb2 hc1 hc2 hD hE hDF hEF hV hM hl hll
  generalize b1.length = m1 at *
  generalize b2.length = m2 at *
  generalize b1.take 2000 = e1 at *
  generalize b2.take 2000 = e2 at *
  have CT := Lib.hid ct
  have CP1 := Lib.hid cp1
  have CP2 := Lib.hid cp2
  have CAL := Lib.hid cal
  have CT1 := Lib.hid ct1
  have CT2 := Lib.hid ct2
  have CB1 := Lib.hid cb1
  have CB2 := Lib.hid cb2
  have HX1 := Lib.hid hx1
  have HX2 := Lib.hid hx2
  have CSD := Lib.hid csd
  have CRD := Lib.hid crd
  have CSR := Lib.hid csr
  have HSELF := Lib.hid hself
  clear ct cp1 cp2 cal ct1 ct2 cb1 cb2 hx1 hx2 csd crd csr hself
  have hk2 := (Kept.allocd w (.cells #[.int .i64 k1, .int .i64 a1, .int .i64 n1, .int .u64 r1, .slice ap1 m1 cap1] 36)).alloc (.cells #[.int .i64 k2, .int .i64 a2, .int .i64 n2, .int .u64 r2, .slice ap2 m2 cap2] 36)
  have hg1 := (Kept.allocd (w.alloc (.cells #[.int .i64 k1, .int .i64 a1, .int .i64 n1, .int .u64 r1, .slice ap1 m1 cap1] 36)) (.cells #[.int .i64 k2, .int .i64 a2, .int .i64 n2, .int .u64 r2, .slice ap2 m2 cap2] 36)).heap (heap_alloc_new w _) (fun h => h)
  have hg2 := heap_alloc_new (w.alloc (.cells #[.int .i64 k1, .int .i64 a1, .int .i64 n1, .int .u64 r1, .slice ap1 m1 cap1] 36)) (.cells #[.int .i64 k2, .int .i64 a2, .int .i64 n2, .int .u64 r2, .slice ap2 m2 cap2] 36)
  rw [World.size_alloc] at hg2
  have HK2 := Lib.hid hk2
  have HG1 := Lib.hid hg1
  have HG2 := Lib.hid hg2
  clear hk2 hg1 hg2
  go_enter Tryd.func4, Tryd.ntmps4
  go_wp2_with fail
  generalize (w.alloc (.cells #[.int .i64 k1, .int .i64 a1, .int .i64 n1, .int .u64 r1, .slice ap1 m1 cap1] 36)).alloc (.cells #[.int .i64 k2, .int .i64 a2, .int .i64 n2, .int .u64 r2, .slice ap2 m2 cap2] 36) = W2 at *
  obtain ⟨c0, c1, c2, c3, c4⟩ := blk5 HG1.out
  obtain ⟨d0, d1, d2, d3, d4⟩ := blk5 HG2.out
  have cf := fun i => frozenB HG1.out i
  have df := fun i => frozenB HG2.out i
  refine wp_plan 0 [1, 2, 3, 4, 5, 6, 7, 8] 9 [([10], 11)] [12] (by kernel_rfl) (by kernel_rfl) ?_
  simp only [wpPlan, pick, List.filterMap_cons, List.filterMap_nil, List.getElem?_cons_succ, List.getElem?_cons_zero]
  repeat (quiet_step ((first | (go_at_call 7; first | exact Calls.quiet_of_same (CB1.out _) | exact Calls.quiet_of_same (CB2.out _)) | (go_at_call 8; exact Calls.quiet_of_same (CT.out _)))))
  refine wpQuiet_nil ?_
  rintro _ ⟨q1, rfl⟩
  go_wp2_with fail
  refine Halt.mk ?_
  repeat (quiet_step (fail))
  refine wpQuiet_nil ?_
  rintro _ ⟨q2, rfl⟩
  go_wp2_with fail
  refine Halt.mk ?_
  repeat (quiet_step (fail))
  refine wpQuiet_nil ?_
  rintro _ ⟨q3, rfl⟩
  go_wp2_with fail
  have hg1 : (((((W2.drewN q1).setCell ⟨w.heap.size, 4, none⟩ (.slice ap1 e1.length cap1)).drewN q2).setCell ⟨w.heap.size + 1, 4, none⟩ (.slice ap2 e2.length cap2)).drewN q3).heap[w.heap.size]? = some (.cells #[.int .i64 k1, .int .i64 a1, .int .i64 n1, .int .u64 r1, .slice ap1 e1.length cap1] 36 (0, 0)) := by
    have := heap_set_ne (w := ((W2.drewN q1).setCell ⟨w.heap.size, 4, none⟩ (.slice ap1 e1.length cap1)).drewN q2) (p := ⟨w.heap.size + 1, 4, none⟩) (v := .slice ap2 e2.length cap2) (heap_setCell_same (w := W2.drewN q1) HG1.out 4 (.slice ap1 e1.length cap1)) (by simp)
    simpa using this
  have hg2 : (((((W2.drewN q1).setCell ⟨w.heap.size, 4, none⟩ (.slice ap1 e1.length cap1)).drewN q2).setCell ⟨w.heap.size + 1, 4, none⟩ (.slice ap2 e2.length cap2)).drewN q3).heap[w.heap.size + 1]? = some (.cells #[.int .i64 k2, .int .i64 a2, .int .i64 n2, .int .u64 r2, .slice ap2 e2.length cap2] 36 (0, 0)) := by
    have := heap_setCell_same (w := ((W2.drewN q1).setCell ⟨w.heap.size, 4, none⟩ (.slice ap1 e1.length cap1)).drewN q2) (heap_set_ne (w := W2.drewN q1) (p := ⟨w.heap.size, 4, none⟩) (v := .slice ap1 e1.length cap1) HG2.out (by simp)) 4 (.slice ap2 e2.length cap2)
    simpa using this
  have hk3 : Kept NoBlock w (((((W2.drewN q1).setCell ⟨w.heap.size, 4, none⟩ (.slice ap1 e1.length cap1)).drewN q2).setCell ⟨w.heap.size + 1, 4, none⟩ (.slice ap2 e2.length cap2)).drewN q3) := ((((HK2.out.drewN q1).own (Nat.le_refl _) 4 (.slice ap1 e1.length cap1)).drewN q2).own (Nat.le_succ _) 4 (.slice ap2 e2.length cap2)).drewN q3
  clear c0 c1 c2 c3 c4 d0 d1 d2 d3 d4 cf df
  generalize (((((W2.drewN q1).setCell ⟨w.heap.size, 4, none⟩ (.slice ap1 e1.length cap1)).drewN q2).setCell ⟨w.heap.size + 1, 4, none⟩ (.slice ap2 e2.length cap2)).drewN q3) = W3 at *
  have HK3 := Lib.hid hk3
  have HG1b := Lib.hid hg1
  have HG2b := Lib.hid hg2
  have hvd : DeedV W3 (.agg #[.int .i64 k1, .int .i64 a1, .int .i64 n1, .int .u64 r1, .slice ap1 e1.length cap1]) ⟨k1, a1, n1, r1, e1⟩ := ⟨_, rfl, HX1.out.keptNo hk3⟩
  have hve : DeedV W3 (.agg #[.int .i64 k2, .int .i64 a2, .int .i64 n2, .int .u64 r2, .slice ap2 e2.length cap2]) ⟨k2, a2, n2, r2, e2⟩ := ⟨_, rfl, HX2.out.keptNo hk3⟩
  have HVD := Lib.hid hvd
  have HVE := Lib.hid hve
  generalize e1.length = m3 at *
  generalize e2.length = m4 at *
  clear hk3 hg1 hg2 hvd hve HK2 HG1 HG2 HX1 HX2 CB1 CB2 CT
  refine (CT1.out _ _ HK3.out HVD.out).mono ?_
  rintro e w4 ⟨rfl, hk4⟩
  have HK4 := Lib.hid hk4
  obtain ⟨c0, c1, c2, c3, c4⟩ := blk5 (hk4.heap HG1b.out (fun h => h))
  clear hk4
  go_wp2_with fail
  refine (CT2.out _ _ (HVD.out.kept HK4.out)).mono ?_
  rintro e w5 ⟨rfl, hk5⟩
  have HK5 := Lib.hid (HK4.out.trans hk5)
  clear hk5 c0 c1 c2 c3 c4
  go_wp2_with fail
  refine (CP1.out _ (HK3.out.trans HK5.out)).mono ?_
  rintro e w6 h6
  obtain ⟨hk6, x0, x1, x2, x3, x4, rfl, hX⟩ := h6.told
  have HK6 := Lib.hid (HK5.out.trans hk6)
  obtain ⟨xap, xcap, rfl, _⟩ : ∃ ap cap, x4 = .slice ap (parsedD R).b.length cap ∧ True := by obtain ⟨bv, e, hb⟩ := hX; cases e; obtain ⟨ap, cap, rfl, _⟩ := hb.parts; exact ⟨_, _, rfl, trivial⟩
  have HX := Lib.hid hX
  clear hk6 h6 hX
  have HK7 := Lib.hid (HK6.out.alloc (.cells #[.int .i64 x0, .int .i64 x1, .int .i64 x2, .int .u64 x3, .slice xap (parsedD R).b.length xcap] 36))
  have HG7 := Lib.hid (heap_alloc_new w6 (.cells #[.int .i64 x0, .int .i64 x1, .int .i64 x2, .int .u64 x3, .slice xap (parsedD R).b.length xcap] 36))
  have HX7 := Lib.hid (HX.out.kept (Kept.allocd w6 (.cells #[.int .i64 x0, .int .i64 x1, .int .i64 x2, .int .u64 x3, .slice xap (parsedD R).b.length xcap] 36)))
  go_wp2_with fail
  generalize w6.alloc (.cells #[.int .i64 x0, .int .i64 x1, .int .i64 x2, .int .u64 x3, .slice xap (parsedD R).b.length xcap] 36) = W7 at *
  generalize w6.heap.size = g1 at *
  refine (CP2.out _ (HK3.out.trans HK7.out)).mono ?_
  rintro e w8 h8
  obtain ⟨hk8, y0, y1, y2, y3, y4, rfl, hY⟩ := h8.told
  have HK8 := Lib.hid (HK7.out.trans hk8)
  have HG8 := Lib.hid (hk8.heap HG7.out (fun h => h))
  have HX8 := Lib.hid (HX7.out.kept hk8)
  obtain ⟨yap, ycap, rfl, _⟩ : ∃ ap cap, y4 = .slice ap (parsedD R).b.length cap ∧ True := by obtain ⟨bv, e, hb⟩ := hY; cases e; obtain ⟨ap, cap, rfl, _⟩ := hb.parts; exact ⟨_, _, rfl, trivial⟩
  have HY := Lib.hid hY
  clear hk8 h8 hY HG7 HX7 HX HK7
  have HK9 := Lib.hid (HK8.out.alloc (.cells #[.int .i64 y0, .int .i64 y1, .int .i64 y2, .int .u64 y3, .slice yap (parsedD R).b.length ycap] 36))
  have HG9 := Lib.hid (heap_alloc_new w8 (.cells #[.int .i64 y0, .int .i64 y1, .int .i64 y2, .int .u64 y3, .slice yap (parsedD R).b.length ycap] 36))
  have HY9 := Lib.hid (HY.out.kept (Kept.allocd w8 (.cells #[.int .i64 y0, .int .i64 y1, .int .i64 y2, .int .u64 y3, .slice yap (parsedD R).b.length ycap] 36)))
  have HX9 := Lib.hid (HX8.out.kept (Kept.allocd w8 (.cells #[.int .i64 y0, .int .i64 y1, .int .i64 y2, .int .u64 y3, .slice yap (parsedD R).b.length ycap] 36)))
  have HF9 := Lib.hid ((Kept.allocd w8 (.cells #[.int .i64 y0, .int .i64 y1, .int .i64 y2, .int .u64 y3, .slice yap (parsedD R).b.length ycap] 36)).heap HG8.out (fun h => h))
  go_wp2_with fail
  generalize w8.alloc (.cells #[.int .i64 y0, .int .i64 y1, .int .i64 y2, .int .u64 y3, .slice yap (parsedD R).b.length ycap] 36) = W0 at *
  generalize w8.heap.size = g2 at *
  have csx := fun W (hk : Kept NoBlock W0 W) => (rsame _ _ _ _ W (HX9.out.kept hk) (HY9.out.kept hk))
  rw [HSELF.out] at csx
  have csd := fun W (hk : Kept NoBlock W0 W) => CSD.out _ _ W ((HVD.out.kept HK9.out).kept hk) ((HVE.out.kept HK9.out).kept hk)
  have crd := fun W (hk : Kept NoBlock W0 W) => CRD.out _ _ W ((HVD.out.kept HK9.out).kept hk) ((HVE.out.kept HK9.out).kept hk)
  have csr := fun W (hk : Kept NoBlock W0 W) => CSR.out _ W ((HVD.out.kept HK9.out).kept hk)
  have cal := fun W (hk : Kept NoBlock W0 W) => CAL.out W ((HK3.out.trans HK9.out).trans hk)
  have kg1 := fun W (hk : Kept NoBlock W0 W) => blk5 (hk.heap (HK9.out.heap HG1b.out (fun h => h)) (fun h => h))
  have kg2 := fun W (hk : Kept NoBlock W0 W) => blk5 (hk.heap (HK9.out.heap HG2b.out (fun h => h)) (fun h => h))
  have kx := fun W (hk : Kept NoBlock W0 W) => blk5 (hk.heap HF9.out (fun h => h))
  have ky := fun W (hk : Kept NoBlock W0 W) => blk5 (hk.heap HG9.out (fun h => h))
  generalize (parsedD R).b.length = m5 at *
  generalize parsedC R = co at *
  have HCSX := Lib.hid csx
  have HCSD := Lib.hid csd
  have HCRD := Lib.hid crd
  have HCSR := Lib.hid csr
  have HCAL := Lib.hid cal
  have KG1 := Lib.hid kg1
  have KG2 := Lib.hid kg2
  have KX := Lib.hid kx
  have KY := Lib.hid ky
  have HKW := Lib.hid (HK3.out.trans HK9.out)
  clear csx csd crd csr cal kg1 kg2 kx ky CSD CRD CSR CAL CP1 CP2 CT1 CT2 HX8 HX9 HY HY9 HF9 HG8 HG9 HVD HVE HG1b HG2b HK3 HK4 HK5 HK6 HK8 HK9
  refine wp_planC (fun W => Kept NoBlock W0 W) 36 [.seg [0, 1, 2, 3, 4, 5, 6, 7, 8, 9, 10] 11, .flt 12, .flt 13, .flt 14, .flt 15, .flt 16, .flt 17, .flt 18, .flt 22, .flt 23, .seg [19, 20] 21, .seg [] 24, .seg [25, 26, 27, 28, 29] 30, .seg [31, 32] 33] [34, 35] (by kernel_rfl) (by kernel_rfl) (fun _ _ _ dst _ h => by cases dst <;> exact h) (fun _ _ h => h.drewN _) (Kept.refl _ _) (fun q0 => ?_)
  simp only [wpPlanC, pick, List.filterMap_cons, List.filterMap_nil, List.getElem?_cons_succ, List.getElem?_cons_zero]
  obtain ⟨p0, p1, p2, p3, p4⟩ := KX.out W0 (Kept.refl _ _)
  obtain ⟨s0, s1, s2, s3, s4⟩ := KY.out W0 (Kept.refl _ _)
  repeat (quiet_step (fail))
  refine wpQuiet_nil ?_
  rintro _ ⟨q5, rfl⟩
  go_wp2_with fail
  refine (HCSX.out _ ((Kept.refl _ _).drewN _)).mono ?_
  rintro e w1 ⟨rfl, hk⟩
  have HK1 := Lib.hid (((Kept.refl NoBlock W0).drewN _).trans hk)
  clear hk p0 p1 p2 p3 p4 s0 s1 s2 s3 s4
  go_wp2_with fail
  refine Halt.mk ⟨.inr HK1.out, ?_⟩
  iterate 2 (refine wpFloat_ex rfl ?_; apply Exists.intro; refine ⟨fun w' hw' => ?_, ?_⟩; (go_simp; first | rfl | exact ⟨rfl, rfl⟩); simp only [Act.put, List.setIfInBounds_toArray, List.set_cons_succ, List.set_cons_zero])
  iterate 3 (apply Exists.intro; refine ⟨fun _ w' hw' => ?_, fun h => ?_, ?_⟩; (go_simp; first | rfl | exact ⟨rfl, rfl⟩); (simp [Region.wanted, yielded] at h); simp only [Act.put, List.setIfInBounds_toArray, List.set_cons_succ, List.set_cons_zero])
  iterate 2 (refine wpFloat_ex rfl ?_; apply Exists.intro; refine ⟨fun w' hw' => ?_, ?_⟩; (go_simp; first | rfl | exact ⟨rfl, rfl⟩); simp only [Act.put, List.setIfInBounds_toArray, List.set_cons_succ, List.set_cons_zero])
  iterate 2 (apply Exists.intro; refine ⟨fun _ w' hw' => ?_, fun h => ?_, ?_⟩; (obtain ⟨u0, u1, u2, u3, u4⟩ := KG1.out w' hw'; obtain ⟨v0, v1, v2, v3, v4⟩ := KG2.out w' hw'; go_simp; first | rfl | exact ⟨rfl, rfl⟩); (simp [Region.wanted, yielded] at h); simp only [Act.put, List.setIfInBounds_toArray, List.set_cons_succ, List.set_cons_zero])
  obtain ⟨p0, p1, p2, p3, p4⟩ := KG1.out _ HK1.out
  obtain ⟨s0, s1, s2, s3, s4⟩ := KG2.out _ HK1.out
  repeat (quiet_step (fail))
  refine wpQuiet_nil ?_
  rintro _ ⟨q6, rfl⟩
  go_wp2_with fail
  refine (HCSD.out _ (HK1.out.drewN _)).mono ?_
  rintro e w2 ⟨rfl, hk⟩
  have HK2 := Lib.hid ((HK1.out.drewN _).trans hk)
  clear hk p0 p1 p2 p3 p4 s0 s1 s2 s3 s4
  go_wp2_with fail
  refine Halt.mk ⟨.inr HK2.out, ?_⟩
  go_wp2_with fail
  refine (HCRD.out _ HK2.out).mono ?_
  rintro e w3 ⟨rfl, hk⟩
  have HK3 := Lib.hid (HK2.out.trans hk)
  clear hk
  go_wp2_with fail
  refine Halt.mk ⟨.inr HK3.out, ?_⟩
  obtain ⟨p0, p1, p2, p3, p4⟩ := KG1.out _ HK3.out
  repeat (quiet_step (fail))
  refine wpQuiet_nil ?_
  rintro _ ⟨q7, rfl⟩
  go_wp2_with fail
  refine (HCSR.out _ (HK3.out.drewN _)).mono ?_
  rintro e w4 ⟨rfl, hk⟩
  have HK4 := Lib.hid ((HK3.out.drewN _).trans hk)
  clear hk p0 p1 p2 p3 p4
  go_wp2_with fail
  refine Halt.mk ⟨.inr HK4.out, ?_⟩
  repeat (quiet_step (fail))
  refine wpQuiet_nil ?_
  rintro _ ⟨q8, rfl⟩
  go_wp2_with fail
  refine (HCAL.out _ (HK4.out.drewN _)).mono ?_
  rintro e w5 ⟨rfl, hk⟩
  have HK5 := Lib.hid ((HK4.out.drewN _).trans hk)
  clear hk
  go_wp2_with fail
  refine Halt.mk ⟨.inr HK5.out, ?_⟩
  repeat (quiet_step (fail))
  refine wpQuiet_nil ?_
  rintro _ ⟨q9, rfl⟩
  go_wp2_with fail
  go_ret
  exact ⟨rfl, HKW.out.trans (HK5.out.drewN _)⟩
end Go.Proofs.YtdinkdmkbfbjbaaDoor
namespace Go.Proofs.YtdinkdmkbfbjbaaDoor
open Go.ChangeShapes Go.WideShapes Go.ChangeAt Go.RowKit

theorem own : ownKnob Tryd.prog.godebug = none := by kernel_rfl
theorem laidOut : laidOutB Tryd.prog = true := by kernel_rfl

theorem trodAll_below {H : Type} {enc : TypeId × Value → H} {P : Program} (hl : laidOutB P = true) {W W' : World} (hb : Below W.heap.size W W') :
    ∀ {ts : List TypeId} {vs : List Value} {ds : List (DataW H)} {ps : List MemPlace}, (∀ t ∈ ts, P.readableRec t = true ∧ t < P.types.size) →
      DataW.TrodAll enc P W 0 (fun _ => true) true ts vs ds ps → (∀ x ∈ ps, x.block < W.heap.size) → DataW.TrodAll enc P W' 0 (fun b => decide (b < W.heap.size)) true ts vs ds ps
  | [], vs, ds, ps, _, h, _ => by
    obtain ⟨rfl, rfl, rfl⟩ := trodAll_nil h
    exact trodAll_mk0
  | t :: ts, vs, ds, ps, hr, h, hlt => by
    obtain ⟨v, vs', d, ds', p, q, rfl, rfl, rfl, h0, h1⟩ := trodAll_cons h
    exact trodAll_cons_mk (Below.trod hl (hr t (by simp)).1 (hr t (by simp)).2 h0 hb (fun x hx => hlt x (by simp [hx])))
      (trodAll_below hl hb (fun t ht => hr t (by simp [ht])) h1 (fun x hx => hlt x (by simp [hx])))

theorem law_post {H : Type} {enc : TypeId × Value → H} {P : Program} {f : Func} {s : ChangeSpec} {W W' : World} {args : Array Value} {ds gs : List (DataW H)} {before : List MemPlace} {b : TypeId}
    (hW : DataW.Whole enc P f.params.toList s.vars false W args.toList ds gs before) (hl : laidOutB P = true) (hrt : f.resultTypes = #[b]) (hu : P.underlying b = some .bool) (hv : s.vars = [])
    (hr : ∀ t ∈ f.params.toList, P.readableRec t = true ∧ t < P.types.size) (e1 : (s.fn H (ds ++ gs)).results = [.lit (.bool true)]) (e2 : (s.fn H (ds ++ gs)).args = ds) (e3 : (s.fn H (ds ++ gs)).vars = [])
    (hb : Below W.heap.size W W') : s.post enc P f false true false false W args (.bool true) W' := by
  have hW' := hW
  obtain ⟨p, q, hA, hV, rfl, hfz, hnd⟩ := hW
  have hV' : DataW.TrodVars enc P W (fun _ => true) [] gs q := by rw [← hv]; exact hV
  obtain ⟨rfl, rfl⟩ := trodVars_none hV'
  refine ⟨ds, [], p ++ [], [], p, [], hW', ?_, ?_, ?_, hb.frame _, fun h => by cases h⟩
  · rw [e1, hrt]; exact trodAll_mk1 (shut_bool hu true)
  · rw [e2]; exact trodAll_below hl hb hr hA (fun x hx => by have := hW'.lt x (by simpa using hx); simpa using this)
  · rw [e3, hv]; rfl

theorem cells_byte : Tryd.prog.cellsOf 5 = 1 := by kernel_rfl

theorem bytes_holds {H : Type} {enc : TypeId × Value → H} {W : World} {fuel : Nat} {a0 : Option Addr} {len cap : Nat} {d : DataW H} {p : List MemPlace}
    (h : DataW.trod enc Tryd.prog W 0 (fun _ => true) true fuel 22 [.slice a0 len cap] = some (d, p)) :
    ∃ ss : List UInt8, Holds W a0 len (ss.map bv) ∧ len ≤ cap ∧ (a0 = none → cap = 0) := by
  rcases open_ints Tryd.underlying22 Tryd.underlying5 cells_byte h with ⟨hcs, hx⟩ | ⟨a, len', cap', ss, hcs, _, hl, hm, hz, hx, hcell, hws⟩
  · simp at hcs
    obtain ⟨rfl, rfl, rfl⟩ := hcs
    exact ⟨[], ⟨rfl, fun h => by omega⟩, Nat.le_refl _, fun _ => rfl⟩
  · simp at hcs
    obtain ⟨rfl, rfl, rfl⟩ := hcs
    simp only [if_true] at hz
    refine ⟨(ss.take len).map fun z => UInt8.ofNat z.toNat, ⟨by rw [List.length_map, List.length_map, List.length_take]; omega, fun hn => ⟨a, rfl, fun j v hj => ?_⟩⟩, hl, fun h => by cases h⟩
    rw [List.getElem?_map, List.getElem?_map, List.getElem?_take] at hj
    split at hj
    · rename_i hjl
      rw [hcell j (by omega)]
      rw [List.getElem?_eq_getElem (by omega)] at hj
      rw [List.getD_eq_getElem?_getD, List.getElem?_eq_getElem (by omega)]
      have hw := hws ss[j] (List.getElem_mem _)
      have hr : 0 ≤ ss[j] ∧ ss[j] ≤ 255 := by simpa [Lit.wf, IntKind.min, IntKind.max, IntKind.signed, IntKind.bits] using hw
      simp only [Option.map_some, Option.some.injEq, Option.getD_some] at hj ⊢
      rw [← hj]
      simp only [bv, UInt8.toNat_ofNat', Value.int.injEq, true_and]
      omega
    · simp at hj

set_option maxRecDepth 100000 in
theorem slice_lt {W : World} {base : Nat} {t e : TypeId} {a : Option Addr} {n c : Nat} (ht : Tryd.prog.underlying t = some (.slice e)) (h : Value.okWide Tryd.prog W .any base t (.slice a n c)) : ∀ k, vblk (.slice a n c) = some k → k < W.heap.size := by
  intro k hk
  cases a with
  | none => cases hk
  | some a =>
    obtain rfl : a.block = k := by simpa [vblk] using hk
    simp only [Value.okWide, ht, Cell.okWide, Cell.ok] at h
    obtain ⟨_, _, _, _, row, cells, hs, _⟩ := h
    unfold World.shape? at hs
    rcases Nat.lt_or_ge a.block W.heap.size with hl | hl
    · exact hl
    · simp [Array.getElem?_eq_none hl] at hs

set_option maxRecDepth 100000 in
theorem slice_cap {W : World} {base : Nat} {t e : TypeId} {a : Option Addr} {n c : Nat} (ht : Tryd.prog.underlying t = some (.slice e)) (h : Value.okWide Tryd.prog W .any base t (.slice a n c)) : n ≤ 9223372036854775807 := by
  cases a with
  | none =>
    simp only [Value.okWide, ht, Cell.okWide] at h
    cases n with
    | zero => omega
    | succ n => simp [Cell.ok, ht] at h
  | some a =>
    simp only [Value.okWide, ht, Cell.okWide, Cell.ok] at h
    have h1 := h.1
    have h2 := h.2.1
    simp [IntKind.max, IntKind.signed, IntKind.bits] at h2
    omega

/-- A slice of bytes that came in. -/
theorem bytes_in {H : Type} {enc : TypeId × Value → H} {W : World} {fuel : Nat} {a0 : Option Addr} {len cap : Nat} {d : DataW H} {p : List MemPlace}
    (h : DataW.trod enc Tryd.prog W 0 (fun _ => true) true fuel 22 [.slice a0 len cap] = some (d, p)) : ∃ l : List UInt8, BytesV W (.slice a0 len cap) l := by
  obtain ⟨l, H, lc, z⟩ := bytes_holds h
  exact ⟨l, RowV.mk H lc z⟩
end Go.Proofs.YtdinkdmkbfbjbaaDoor
namespace Go.Proofs.YtdinkdmkbfbjbaaDoor
open Go.ChangeShapes Go.WideShapes Go.ChangeAt Go.RowKit Go.Lib

def laidL : List (String × DataW Unit) := [("math/bits.deBruijn32tab", Rows.laid_math_bits_deBruijn32tab), ("math/bits.deBruijn64tab", Rows.laid_math_bits_deBruijn64tab), ("internal/strconv.uint64pow10", Rows.laid_internal_strconv_uint64pow10), ("strconv.ErrRange", Rows.laid_strconv_ErrRange), ("strconv.ErrSyntax", Rows.laid_strconv_ErrSyntax)]

theorem star : "*" ++ "errors.errorString" = "*errors.errorString" := by decide
theorem rowPtr (u : TypeId) (h : Tryd.prog.typeName? 3 u = some "*errors.errorString") : u = 156 :=
  typeName_ptr_named (nm := "errors.errorString") (by rw [star]; kernel_rfl) (by kernel_rfl) (by decide) u (by rw [star]; exact h)

theorem powTab : (Rows.laid_internal_strconv_uint64pow10 : DataW Unit) = Lib.tabData .u64 Lib.pow10Tab := by kernel_rfl

/-- From the list to what the walks ask. -/
theorem vs_of_laid {W : World} (hL : laidMet Tryd.prog laidL W) : Vs W := by
  have h2 := hL.tail.tail
  have h3 := h2.tail
  have h4 := h3.tail
  refine ⟨?_, ?_, ?_⟩
  · rw [powTab] at h2
    exact Lib.tabIs_of_head (g := 3) (t := 149) (e := 34) (n := 20) (by kernel_rfl) (by kernel_rfl) (by kernel_rfl) (by kernel_rfl) (by kernel_rfl) (by kernel_rfl) h2
  · obtain ⟨a, s, h, _⟩ := laid_sentinel (g := 1) h4 (by kernel_rfl) (by kernel_rfl) Tryd.underlying77 rowPtr Tryd.underlying156 Tryd.underlying158 rfl rfl Tryd.underlying9 (by kernel_rfl) (by kernel_rfl)
    exact ⟨_, _, h⟩
  · obtain ⟨a, s, h, _⟩ := laid_sentinel (g := 2) h3 (by kernel_rfl) (by kernel_rfl) Tryd.underlying77 rowPtr Tryd.underlying156 Tryd.underlying158 rfl rfl Tryd.underlying9 (by kernel_rfl) (by kernel_rfl)
    exact ⟨_, _, h⟩

def litCells (d : DataW Unit) : Array Value := match d with
  | .agg l => (l.map fun x => match x with | .lit (.int k n) => Value.int k n | _ => .nilIface).toArray
  | _ => #[]

noncomputable abbrev N0 : Nat := (World.settled Tryd.prog default).heap.size
/-- The settled world, with the tables and the two errors laid. -/
noncomputable def laidWorld (os : Os) : World :=
  let N := (World.settled Tryd.prog os).heap.size
  let w0 := World.holding Tryd.prog os ⟨#[.cells #[.string ⟨#[118, 97, 108, 117, 101, 32, 111, 117, 116, 32, 111, 102, 32, 114, 97, 110, 103, 101]⟩] 158, .cells #[.string ⟨#[105, 110, 118, 97, 108, 105, 100, 32, 115, 121, 110, 116, 97, 120]⟩] 158], #[], []⟩
  let put (h : Array Obj) (g : Nat) (cs : Array Value) : Array Obj := h.modify g fun
    | .cells _ t frozen => .cells cs t frozen
    | o => o
  let h0 := put (put w0.heap 1 #[.iface 156 (.pointer (some ⟨N + 1, 0, none⟩))]) 2 #[.iface 156 (.pointer (some ⟨N, 0, none⟩))]
  let h1 := put (put (put h0 3 (litCells Rows.laid_internal_strconv_uint64pow10)) 4 (litCells Rows.laid_math_bits_deBruijn32tab)) 5 (litCells Rows.laid_math_bits_deBruijn64tab)
  { w0 with heap := h1 }

set_option maxRecDepth 1000000 in
theorem laidWorld_met (os : Os) (args : Array Value) : laidMet Tryd.prog laidL ((laidWorld os).forCall (fun _ _ => 0) ⟨#[], args, []⟩).memory :=
  (LaidIn.of_run [4, 5, 3, 2, N0, 1, N0 + 1] 10 (by kernel_rfl) (by kernel_rfl) (by kernel_rfl) (by kernel_rfl)).met
end Go.Proofs.YtdinkdmkbfbjbaaDoor
namespace Go.Proofs.YtdinkdmkbfbjbaaDoor
open Go.ChangeShapes Go.WideShapes Go.ChangeAt Go.RowKit

theorem mx_of_shaped {W : World} (h : W.ShapedOpen Tryd.prog) : Mx W := Tryd.laysM145.s1_3 W h

/-- As the library's wrap for a row that lists variables; the contract is handed the world's shape too. -/
theorem wrapShaped {H : Type} {enc : TypeId × Value → H} {C : Checked} {os : Os} {f : FuncId} {fn : Func} {s : ChangeSpec} {conds : List PathCond} {apart fresh handsOn again : Bool} {X : World → Array Value → Prop}
    (hX : ∀ (w w' : World) (args : Array Value), w.heap = w'.heap → X w args → X w' args)
    (own : ownKnob C.prog.godebug = none) (started : os.Started) (noInit : C.prog.inits.idxOf? f = none) (hfn : C.prog.funcs[f]? = some fn)
    (witness : ∃ (w : World) (tape : Tape) (i : Input), w.os = os ∧ (w.forCall tape i).Shaped C.prog ∧ i.vars = [] ∧ Input.okWide C.prog (w.forCall tape i) .any w.heap.size f i ∧
      ((s.pre enc C.prog fn conds apart (w.forCall tape i).memory i.args ∧ X (w.forCall tape i).memory i.args) ∧ sizedMet enc C.prog fn (OpenSpec.ofChange s) apart (w.forCall tape i).memory i.args) ∧ ({} : Assume).holds C.prog (lone (Frame.enter C.prog f i.args .normal) [] (w.forCall tape i)))
    (contract : ∀ (W : World) (base : Nat) (args : Array Value) (ds gs : List (DataW H)) (before : List MemPlace),
      (∀ (j : Nat) t v, fn.params[j]? = some t → args[j]? = some v → Value.okWide C.prog W .any base t v) →
      DataW.Whole enc C.prog fn.params.toList s.vars apart W args.toList ds gs before → X W args → W.ShapedOpen C.prog →
      Calls C.prog f args W fun e W' => ∃ v, e = .returned v ∧ s.post enc C.prog fn apart fresh handsOn again W args v W') :
    ReturnsInHanded {} C os f .any (fun w args => (s.pre enc C.prog fn conds apart w args ∧ X w args) ∧ sizedMet enc C.prog fn (OpenSpec.ofChange s) apart w args) (s.post enc C.prog fn apart fresh handsOn again) := by
  refine returnsInHanded_of_calls own started noInit witness fun w tape i _ hsh _ hok hpre _ => ?_
  obtain ⟨_, _, _, fn', hfn', _, _, _, _, hval⟩ := hok
  obtain rfl : fn' = fn := Option.some.inj (hfn'.symm.trans hfn)
  obtain ⟨⟨⟨ds, gs, before, hw, _⟩, hx⟩, _⟩ := hpre
  refine (contract (w.forCall tape i) w.heap.size i.args ds gs before hval (DataW.Whole.of_heap (w := (w.forCall tape i).memory) (w' := w.forCall tape i) (by rfl) hw) (hX _ _ _ (by rfl) hx) hsh).mono ?_
  rintro e W' ⟨v, rfl, hp⟩
  exact ChangeSpec.post_blind hp
end Go.Proofs.YtdinkdmkbfbjbaaDoor
namespace Go.Proofs.YtdinkdmkbfbjbaaDoor
open Go.RowKit
attribute [local go_sem] fold_part fold_some fold_some' partAt_zero

/-- A deed's five cells; the second is its bytes' slice. -/
def dCells (p : Deed × Value) : List Value := [.int .i64 p.1.kind, .int .i64 p.1.a, .int .i64 p.1.n, .int .u64 p.1.draw, p.2]
theorem dCells_len (ps : List (Deed × Value)) : (ps.flatMap dCells).length = 5 * ps.length := by
  induction ps with
  | nil => rfl
  | cons p ps ih => rw [List.flatMap_cons, List.length_append, ih]; simp [dCells]; omega
theorem dCells_at : ∀ (ps : List (Deed × Value)) (i j : Nat) (p : Deed × Value), ps[i]? = some p → j < 5 → (ps.flatMap dCells)[i * 5 + j]? = (dCells p)[j]?
  | [], i, j, p, h, _ => by simp at h
  | q :: ps, 0, j, p, h, hj => by
    obtain rfl : q = p := by simpa using h
    rw [List.flatMap_cons, List.getElem?_append_left (by simp [dCells]; omega)]
    simp
  | q :: ps, i + 1, j, p, h, hj => by
    rw [List.flatMap_cons, List.getElem?_append_right (by simp [dCells]; omega)]
    have e : (i + 1) * 5 + j - (dCells q).length = i * 5 + j := by simp [dCells]; omega
    rw [e]
    exact dCells_at ps i j p (by simpa using h) hj
theorem dCells_one (ps : List (Deed × Value)) (h : ∀ p ∈ ps, p.2.oneCell' = true) : ∀ u ∈ ps.flatMap dCells, u.oneCell' = true := by
  intro u hu
  obtain ⟨p, hp, hu⟩ := List.mem_flatMap.1 hu
  simp only [dCells, List.mem_cons, List.not_mem_nil, or_false] at hu
  rcases hu with rfl | rfl | rfl | rfl | rfl
  · rfl
  · rfl
  · rfl
  · rfl
  · exact h p hp

/-- A slice of deeds: the cells. -/
def DeedsV (w : World) (v : Value) (ps : List (Deed × Value)) : Prop := ∃ ap cap, v = .slice ap ps.length cap ∧ Holds w ap (5 * ps.length) (ps.flatMap dCells) ∧ ps.length ≤ cap ∧ (ap = none → cap = 0)
/-- The deeds' bytes. -/
def BsV (w : World) (ps : List (Deed × Value)) : Prop := ∀ p ∈ ps, BytesV w p.2 p.1.b

theorem DeedsV.kept {w w' : World} {v : Value} {ps : List (Deed × Value)} (h : DeedsV w v ps) (hk : Kept NoBlock w w') : DeedsV w' v ps := by
  obtain ⟨ap, cap, rfl, h1, h2, h3⟩ := h
  exact ⟨ap, cap, rfl, h1.keptS hk (fun _ _ h => h), h2, h3⟩
theorem BsV.kept {w w' : World} {ps : List (Deed × Value)} (h : BsV w ps) (hk : Kept NoBlock w w') : BsV w' ps := fun p hp => (h p hp).keptNo hk

theorem add_off (a : Addr) (i j : Nat) (hj : j ≠ 0) : a.add (i + j) = ⟨(a.add i).block, (a.add i).off + j, none⟩ := by
  rw [← addr_add_add]
  generalize a.add i = b
  simp [Addr.add, hj]

theorem DeedsV.at {w : World} {ap : Option Addr} {n cap : Nat} {ps : List (Deed × Value)} (h : DeedsV w (.slice ap n cap) ps) {i : Nat} {p : Deed × Value} (hi : ps[i]? = some p) :
    ∃ ad, ap = some ad ∧ w.cell? (ad.add (i * 5)) = some (.int .i64 p.1.kind) ∧ w.cell? ⟨(ad.add (i * 5)).block, (ad.add (i * 5)).off + 1, none⟩ = some (.int .i64 p.1.a) ∧ w.cell? ⟨(ad.add (i * 5)).block, (ad.add (i * 5)).off + 2, none⟩ = some (.int .i64 p.1.n) ∧
      w.cell? ⟨(ad.add (i * 5)).block, (ad.add (i * 5)).off + 3, none⟩ = some (.int .u64 p.1.draw) ∧ w.cell? ⟨(ad.add (i * 5)).block, (ad.add (i * 5)).off + 4, none⟩ = some p.2 := by
  obtain ⟨ap', cap', e, h1, h2, h3⟩ := h
  cases e
  have hl := (List.getElem?_eq_some_iff.1 hi).1
  obtain ⟨ad, rfl, hc⟩ := h1.2 (by omega)
  refine ⟨ad, rfl, hc _ _ (dCells_at ps i 0 p hi (by decide)), ?_, ?_, ?_, ?_⟩
  · rw [← add_off ad (i * 5) 1 (by decide)]; exact hc _ _ (dCells_at ps i 1 p hi (by decide))
  · rw [← add_off ad (i * 5) 2 (by decide)]; exact hc _ _ (dCells_at ps i 2 p hi (by decide))
  · rw [← add_off ad (i * 5) 3 (by decide)]; exact hc _ _ (dCells_at ps i 3 p hi (by decide))
  · rw [← add_off ad (i * 5) 4 (by decide)]; exact hc _ _ (dCells_at ps i 4 p hi (by decide))

/-- A row of deeds that the call itself has made. -/
def OwnD (w : World) (base : Nat) (v : Value) (ps : List (Deed × Value)) : Prop := w.ownsRow base 36 5 v ps.length (ps.flatMap dCells)
theorem OwnD.nil (w : World) (base : Nat) : OwnD w base (.slice none 0 0) [] := World.ownsRow_nil _ _ _ _
theorem OwnD.deeds {w : World} {base : Nat} {v : Value} {ps : List (Deed × Value)} (h : OwnD w base v ps) : DeedsV w v ps := by
  have hl : (ps.flatMap dCells).length = 5 * ps.length := dCells_len ps
  rcases h.2 with ⟨rfl, h0⟩ | ⟨g, cap, cur, rfl, hb, hg, hn, _, _, _⟩
  · refine ⟨none, 0, by rw [h0], ⟨hl, fun hp => ?_⟩, by omega, fun _ => rfl⟩
    omega
  · exact ⟨some ⟨g, 0, none⟩, cap, rfl, ⟨hl, fun _ => ⟨_, rfl, World.ownsRow.cells h rfl⟩⟩, hn, fun h => by cases h⟩
theorem OwnD.form {w : World} {base : Nat} {v : Value} {ps : List (Deed × Value)} (h : OwnD w base v ps) : ∃ ap cap, v = .slice ap ps.length cap ∧ ps.length ≤ cap := by
  obtain ⟨ap, cap, rfl, _, h, _⟩ := h.deeds
  exact ⟨ap, cap, rfl, h⟩
theorem OwnD.kept {w w' : World} {base : Nat} {v : Value} {ps : List (Deed × Value)} (h : OwnD w base v ps) (hk : Kept NoBlock w w') : OwnD w' base v ps := by
  refine ⟨h.1, ?_⟩
  rcases h.2 with hn | ⟨g, cap, cur, rfl, hb, hg, rest⟩
  · exact .inl hn
  · exact .inr ⟨g, cap, cur, rfl, hb, hk.heap hg (fun h => h), rest⟩
theorem OwnD.lt {w : World} {base : Nat} {v : Value} {ps : List (Deed × Value)} (h : OwnD w base v ps) : ∀ k, v.ownBlock = some k → base ≤ k ∧ k < w.heap.size := World.ownsRow.lt h
theorem Kept.appD {w0 w w' : World} {base : Nat} {v : Value} {ps : List (Deed × Value)} {S : Nat → Prop} (hk : Kept S w0 w) (hown : OwnD w base v ps) (hb : w0.heap.size ≤ base) (hg : w.grownBy w' v.ownBlock) : Kept S w0 w' :=
  hk.grown hg (fun k e hlt => absurd hlt (by have := (hown.lt k e).1; omega))

theorem deedInfo : (Tryd.prog.info? 36).map (fun i => (i.zero, i.size, i.bytes)) = some (some (.agg #[.int .i64 0, .int .i64 0, .int .i64 0, .int .u64 0, .slice none 0 0]), 5, 56) := by kernel_rfl

/-- 'append(l, d)'. -/
theorem wpList_appD {w : World} {ops : Array Oper} {rest : List Oper} {o : Oper} {a : Act} {Q : Exit → Act → World → Prop} (hgd : o.guard = none) (s x : Operand)
    (ho : o.op = .call { callee := .builtin .append, args := #[s, x], argTypes := #[53, 53] })
    (base : Nat) (v : Value) (ps : List (Deed × Value)) (hs : a.eval s = v) (hown : OwnD w base v ps) (b : Nat) (p : Deed × Value) (hx : a.eval x = .slice (some ⟨b, 0, none⟩) 1 1)
    (hu : w.heap[b]? = some (.cells #[.int .i64 p.1.kind, .int .i64 p.1.a, .int .i64 p.1.n, .int .u64 p.1.draw, p.2] 36 (0, 0))) (h1 : p.2.oneCell' = true) (hlen : ps.length ≤ 1100000) (hbase : base ≤ w.heap.size)
    (h : ∀ v' w', OwnD w' base v' (ps ++ [p]) → w.grownBy w' v.ownBlock → wpList Tryd.prog ops Q rest (a.put o.dst v') w') : wpList Tryd.prog ops Q (o :: rest) a w := by
  obtain ⟨i0, hi, hz0, hz1, hz2⟩ := info_parts deedInfo
  refine wpList_append_own (P := Tryd.prog) w hgd s x 53 ho base 36 i0 _ 5 56 Tryd.underlying53 hi hz0 hz1 hz2 rfl (by decide) v ps.length (ps.flatMap dCells) hs hown ⟨b, 0, none⟩ 1 1 (dCells p) hx rfl
    (fun j u hj => by rw [addr_add, Nat.zero_add]; exact cellB hu (by simpa [dCells] using hj))
    (fun u hu' => dCells_one [p] (fun q hq => by obtain rfl := List.mem_singleton.1 hq; exact h1) u (by simpa using hu')) (by unfold maxLen; omega) (by omega) hbase ?_
  intro v' w' hr hg _
  refine h v' w' ?_ hg
  unfold OwnD
  rw [List.length_append, List.flatMap_append]
  simpa using hr

/-- A deed's bytes, cut: where they lie. -/
def cutW (p : Deed × Value) : Value := match p.2 with | .slice ap _ cap => .slice ap (p.1.b.take 2000).length cap | v => v
def cutP (p : Deed × Value) : Deed × Value := (⟨p.1.kind, p.1.a, p.1.n, p.1.draw, p.1.b.take 2000⟩, cutW p)
end Go.Proofs.YtdinkdmkbfbjbaaDoor
