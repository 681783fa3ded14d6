/- Merged: Decoding, by the program: what catches the reader's fault; Decoding, by the program; The law's first question: a bulk of three bytes, and an integer. -/
import Derived.Test.YtpekeilpdbdnnaaDoorZYd9
import Derived.Defers
import Derived.Recover
import Derived.Lib.SlBytesConst
set_option linter.all false
namespace Go.Proofs.YtpekeilpdbdnnaaDoor
open Go.RowKit
attribute [local go_sem] fold_part fold_some fold_some' partAt_zero

/-- The three results' boxes. -/
structure Dx (w : World) (H : Nat) (a b c d nv ev : Value) : Prop where
  b0 : w.heap[H]? = some (.cells #[a, b, c, d] 26 (0, 0))
  b1 : w.heap[H + 1]? = some (.cells #[nv] 3 (0, 0))
  b2 : w.heap[H + 2]? = some (.cells #[ev] 27 (0, 0))
theorem Dx.keptS {S : Nat → Prop} {w w' : World} {H : Nat} {a b c d nv ev : Value} (h : Dx w H a b c d nv ev) (hk : Kept S w w') (hS : ∀ i, i ≤ H + 2 → ¬ S i) : Dx w' H a b c d nv ev := ⟨hk.heap h.b0 (hS _ (by omega)), hk.heap h.b1 (hS _ (by omega)), hk.heap h.b2 (hS _ (by omega))⟩
theorem Dx.kept {w w' : World} {H : Nat} {a b c d nv ev : Value} (h : Dx w H a b c d nv ev) (hk : Kept NoBlock w w') : Dx w' H a b c d nv ev := h.keptS hk (fun _ _ h => h)
def DS (H : Nat) (k : Nat) : Prop := k = H ∨ k = H + 1 ∨ k = H + 2
/-- All stored. -/
theorem Dx.set {w : World} {H : Nat} {a b c d nv ev : Value} (h : Dx w H a b c d nv ev) (a' b' c' d' nv' ev' : Value) :
    Dx ((((((w.setCell ⟨H, 0, none⟩ a').setCell ⟨H, 1, none⟩ b').setCell ⟨H, 2, none⟩ c').setCell ⟨H, 3, none⟩ d').setCell ⟨H + 1, 0, none⟩ nv').setCell ⟨H + 2, 0, none⟩ ev') H a' b' c' d' nv' ev' ∧
    Kept (DS H) w ((((((w.setCell ⟨H, 0, none⟩ a').setCell ⟨H, 1, none⟩ b').setCell ⟨H, 2, none⟩ c').setCell ⟨H, 3, none⟩ d').setCell ⟨H + 1, 0, none⟩ nv').setCell ⟨H + 2, 0, none⟩ ev') := by
  refine ⟨⟨?_, ?_, ?_⟩, ?_⟩
  · refine heap_set_ne (heap_set_ne ?_ (by simp)) (by simp)
    rw [heap_setCell_same (heap_setCell_same (heap_setCell_same (heap_setCell_same h.b0 0 a') 1 b') 2 c') 3 d']
    simp
  · refine heap_set_ne (heap_setCell_same (heap_set_ne (heap_set_ne (heap_set_ne (heap_set_ne h.b1 (by simp)) (by simp)) (by simp)) (by simp)) 0 nv') (by simp)
  · refine heap_setCell_same (heap_set_ne (heap_set_ne (heap_set_ne (heap_set_ne (heap_set_ne h.b2 (by simp)) (by simp)) (by simp)) (by simp)) (by simp)) 0 ev'
  · exact Kept.setCell (S := DS H) (p := ⟨H + 2, 0, none⟩) (Kept.setCell (S := DS H) (p := ⟨H + 1, 0, none⟩) (Kept.setCell (S := DS H) (p := ⟨H, 3, none⟩) (Kept.setCell (S := DS H) (p := ⟨H, 2, none⟩) (Kept.setCell (S := DS H) (p := ⟨H, 1, none⟩) (Kept.setCell (S := DS H) (p := ⟨H, 0, none⟩) (Kept.refl _ w) (fun _ => .inl rfl) _) (fun _ => .inl rfl) _) (fun _ => .inl rfl) _) (fun _ => .inl rfl) _) (fun _ => .inr (.inl rfl)) _) (fun _ => .inr (.inr rfl)) _

theorem ta_fault (p c : Int) (w : World) : (Instr.typeAssert (.iface 52 (.agg #[.int .i64 p, .int .i64 c])) 20 52 true).run Tryd.prog w = .ok (.tuple #[.agg #[.int .i64 p, .int .i64 c], .bool true]) w := by kernel_rfl

theorem kept_cell {S : Nat → Prop} {w w' : World} {a : Addr} {v : Value} (hk : Kept S w w') (hc : w.cell? a = some v) (hS : ¬ S a.block) : w'.cell? a = some v := by
  rw [World.cell?_of_block (w := w) (hk.block _ (cell_lt hc) hS)]
  exact hc
theorem kept_set (w : World) (g i : Nat) (v : Value) : Kept (fun k => k = g) w (w.setCell ⟨g, i, none⟩ v) := Kept.setCell (S := fun k => k = g) (p := ⟨g, i, none⟩) (Kept.refl _ w) (fun _ => rfl) _
/-- What the closure leaves behind a fault of the reader. -/
def CaughtD (H : Nat) (p : Nat) (c : Int) (w : World) (e : Ending) (u' : FrameMode) (w' : World) : Prop :=
  e = .returned (.tuple #[]) ∧ u' = .panicking [{ v := faultV p c, recovered := true }] ∧ Dx w' H (.int .i64 0) (.string ⟨#[]⟩) (.int .i64 0) (.slice none 0 0) (.int .i64 p) (.int .i64 c) ∧ Kept (DS H) w w'

set_option maxRecDepth 100000 in
set_option maxHeartbeats 1600000 in
theorem dcatch (H : Nat) (a b c d nv ev : Value) (p : Nat) (no : Int) (w : World) (h : Dx w H a b c d nv ev) :
    CallsD Tryd.prog 22 #[.pointer (some ⟨H, 0, none⟩), .pointer (some ⟨H + 1, 0, none⟩), .pointer (some ⟨H + 2, 0, none⟩)] (.panicking (snapF p no)) w (CaughtD H p no w) := by
  have HH := Lib.hid h
  have hlt := lt_of_heap h.b2
  clear h
  have hta := ta_fault p no
  refine callsD_of_wpS Tryd.func22 rfl fun c₀ cs hu => ?_
  simp only [Tryd.ntmps22, List.size_toArray, List.length_cons, List.length_nil, Nat.reduceAdd, Nat.reduceSub, Array.replicate_succ, Array.replicate_zero, List.push_toArray, List.append_toArray, List.nil_append, List.cons_append]
  apply wpS_seq
  apply wpS_region
  simp [wpOpsS, go_sem, recoverD, hu, snapF, faultV, Exit.thenS]
  refine wpS_of_wp ?_
  clear hu
  go_wp2_with fail
  have hka := Kept.allocd w (.cells #[.int .i64 p, .int .i64 no] 52)
  have hga := heap_alloc_new w (.cells #[.int .i64 p, .int .i64 no] 52)
  have HD1 := Lib.hid (HH.out.kept hka)
  have HKA := Lib.hid hka
  generalize w.alloc (.cells #[.int .i64 p, .int .i64 no] 52) = W at *
  generalize hz : w.heap.size = Z at *
  have e0 : W.cell? ⟨Z, 0, none⟩ = some (.int .i64 p) := cellB hga rfl
  have e1 : W.cell? ⟨Z, 1, none⟩ = some (.int .i64 no) := cellB hga rfl
  have HGA := Lib.hid hga
  have HZ := Lib.hid hz
  clear hka hga hta hz
  refine wp_planC (fun W' => W'.cell? ⟨Z, 0, none⟩ = some (.int .i64 p) ∧ W'.cell? ⟨Z, 1, none⟩ = some (.int .i64 no)) 7 [.flt 1, .flt 2, .flt 3, .flt 4, .seg [0] 5, .seg [] 6, .seg [] 7] [] (by kernel_rfl) (by kernel_rfl) (fun _ _ _ dst _ h => by cases dst <;> exact h) (fun _ _ h => h) ⟨e0, e1⟩ (fun n0 => ?_)
  repeat (refine planC_flt rfl rfl ?_; apply Exists.intro; refine ⟨fun w' hw' => ?_, ?_⟩; (obtain ⟨hw0, hw1⟩ := hw'; go_simp; first | rfl | exact ⟨rfl, rfl⟩); simp only [Act.put, List.setIfInBounds_toArray, List.set_cons_succ, List.set_cons_zero])
  simp only [wpPlanC, pick, List.filterMap_cons, List.filterMap_nil, List.getElem?_cons_succ, List.getElem?_cons_zero]
  repeat (quiet_step (fail))
  refine wpQuiet_nil ?_
  rintro _ ⟨n1, rfl⟩
  have hkd : Kept NoBlock W ((W.drewN n0).drewN n1) := ((Kept.refl NoBlock W).drewN n0).drewN n1
  have HD2 := Lib.hid (HD1.out.kept hkd)
  have HK2 := Lib.hid (HKA.out.trans hkd)
  have z0 := kept_cell hkd e0 (fun h => h)
  have z1 := kept_cell hkd e1 (fun h => h)
  generalize (W.drewN n0).drewN n1 = W2 at *
  clear hkd e0 e1 HD1 HKA HGA
  obtain ⟨c0, c1, c2, c3⟩ := blk4 HD2.out.b0
  have f0 := fun i => frozenB HD2.out.b0 i
  have HS4 := Lib.hid (set4 HD2.out.b0 (.int .i64 0) (.string ⟨#[]⟩) (.int .i64 0) (.slice none 0 0))
  have HST := Lib.hid (HD2.out.set (.int .i64 0) (.string ⟨#[]⟩) (.int .i64 0) (.slice none 0 0) (.int .i64 p) (.int .i64 no))
  have hb1 := heap_set_ne (p := ⟨H, 3, none⟩) (v := .slice none 0 0) (heap_set_ne (p := ⟨H, 2, none⟩) (v := .int .i64 0) (heap_set_ne (p := ⟨H, 1, none⟩) (v := .string ⟨#[]⟩) (heap_set_ne (p := ⟨H, 0, none⟩) (v := .int .i64 0) HD2.out.b1 (by simp)) (by simp)) (by simp)) (by simp)
  have hb2 := heap_set_ne (p := ⟨H, 3, none⟩) (v := .slice none 0 0) (heap_set_ne (p := ⟨H, 2, none⟩) (v := .int .i64 0) (heap_set_ne (p := ⟨H, 1, none⟩) (v := .string ⟨#[]⟩) (heap_set_ne (p := ⟨H, 0, none⟩) (v := .int .i64 0) HD2.out.b2 (by simp)) (by simp)) (by simp)) (by simp)
  go_wp2_with fail
  have z0 := kept_cell HS4.out.2 z0 (by show ¬ Z = H; omega)
  have z1 := kept_cell HS4.out.2 z1 (by show ¬ Z = H; omega)
  refine Halt.mk ⟨.inr ⟨z0, z1⟩, ?_⟩
  generalize hW5 : (((W2.setCell ⟨H, 0, none⟩ (.int .i64 0)).setCell ⟨H, 1, none⟩ (.string ⟨#[]⟩)).setCell ⟨H, 2, none⟩ (.int .i64 0)).setCell ⟨H, 3, none⟩ (.slice none 0 0) = W5 at *
  have HW5 := Lib.hid hW5
  have HB2 := Lib.hid hb2
  obtain ⟨d1, g1⟩ := blk1' hb1
  clear hW5 hb1 hb2 c0 c1 c2 c3 f0
  go_wp2_with fail
  have hk6 := kept_set W5 (H + 1) 0 (.int .i64 p)
  have z0 := kept_cell hk6 z0 (by simp; omega)
  have z1 := kept_cell hk6 z1 (by simp; omega)
  refine Halt.mk ⟨.inr ⟨z0, z1⟩, ?_⟩
  have hb2 := heap_set_ne (p := ⟨H + 1, 0, none⟩) (v := .int .i64 p) HB2.out (by simp)
  obtain ⟨d2, g2⟩ := blk1' hb2
  clear hb2 hk6
  go_wp2_with fail
  refine Halt.mk ⟨.inl trivial, ?_⟩
  clear z0 z1
  go_wp2_with fail
  exact ⟨rfl, _, rfl, _, results_none rfl _ _ _, rfl, rfl, HST.out.1, Kept.trans HK2.out.anyS HST.out.2⟩
set_option maxRecDepth 100000 in
set_option maxHeartbeats 1600000 in
theorem didle (p1 p2 p3 : Value) (w : World) :
    CallsD Tryd.prog 22 #[p1, p2, p3] .returning w fun e u' w' => e = .returned (.tuple #[]) ∧ u' = .returning ∧ w = w' := by
  refine callsD_of_wpS Tryd.func22 rfl fun c₀ cs hu => ?_
  simp only [Tryd.ntmps22, List.size_toArray, List.length_cons, List.length_nil, Nat.reduceAdd, Nat.reduceSub, Array.replicate_succ, Array.replicate_zero, List.push_toArray, List.append_toArray, List.nil_append, List.cons_append]
  apply wpS_seq
  apply wpS_region
  simp [wpOpsS, go_sem, recoverD, hu, Exit.thenS]
  refine wpS_of_wp ?_
  go_wp2
  refine ⟨rfl, .returning, ?_, _, results_none rfl _ _ _, rfl, rfl, rfl⟩
  cases c₀
  simp_all
end Go.Proofs.YtpekeilpdbdnnaaDoor
namespace Go.Proofs.YtpekeilpdbdnnaaDoor
open Go.RowKit
attribute [local go_sem] fold_part fold_some fold_some' partAt_zero

/-- The reply with which some bytes begin, how many they are, and what is wrong. -/
def decP (b : Bs) : Rep × Nat × Int := match repE 8 b with
  | .ok (x, r) => (x, b.length - r.length, 0)
  | .error f => (.mk 0 [] 0 [], fltAt b f, fltNo f)
/-- What a decoder leaves. -/
def DecEnd (w : World) (b : Bs) (e : Ending) (w' : World) : Prop :=
  Kept NoBlock w w' ∧ ∃ m, e = .returned (.tuple #[repA m, .int .i64 (decP b).2.1, .int .i64 (decP b).2.2]) ∧ m.rep = (decP b).1 ∧ GoodM w' (fun j => w.heap.size ≤ j) m ∧ FitM m

theorem only_normal {P : Program} {c : Code} {Q : Exit → Act → World → Prop} {a : Act} {w : World} (h : c.wp P (fun x a w => x = .normal ∧ Q .normal a w) a w) : c.wp P Q a w :=
  Code.wp_mono (fun x a w h => by obtain ⟨rfl, h⟩ := h; exact h) h
theorem no_panic {Q : Exit → Act → World → Prop} : ∀ (c : List PanicEntry) (a : Act) (w : World) (dst : Option Tmp) (v : Value), (fun (x : Exit) a w => x = .normal ∧ Q .normal a w) (.panic c) (a.put dst v) w → (fun (x : Exit) a w => x = .normal ∧ Q .normal a w) (.panic c) a w := fun _ _ _ _ _ h => by cases h.1

/-- The three boxes, laid. -/
def W3 (w : World) : World := ((w.alloc (.cells #[.int .i64 0, .string ⟨#[]⟩, .int .i64 0, .slice none 0 0] 26)).alloc (.cells #[.int .i64 0] 3)).alloc (.cells #[.int .i64 0] 27)
theorem W3_kept (w : World) : Kept NoBlock w (W3 w) := (((Kept.refl NoBlock w).alloc _).alloc _).alloc _
theorem W3_size (w : World) : (W3 w).heap.size = w.heap.size + 3 := by simp [W3]
theorem W3_dx (w : World) : Dx (W3 w) w.heap.size (.int .i64 0) (.string ⟨#[]⟩) (.int .i64 0) (.slice none 0 0) (.int .i64 0) (.int .i64 0) := by
  refine ⟨?_, ?_, ?_⟩ <;> simp only [W3, World.alloc] <;> (simp only [Array.getElem?_push, Array.size_push]; repeat (first | rw [if_neg (by omega)] | rw [if_pos trivial] | rw [if_pos (by omega)]))

set_option maxRecDepth 100000 in
set_option maxHeartbeats 3200000 in
theorem pDecode (v : Value) (b : Bs) (w : World) (h : BytesV w v b) (hl : b.length ≤ 1000000000) (hlt : ∀ j, vblk v = some j → j < w.heap.size) :
    Calls Tryd.prog 9 #[v] w (DecEnd w b) := by
  obtain ⟨ap, cap, rfl, hcp, _⟩ := h.parts
  have hkr := (W3_kept w).trans (Kept.allocd (W3 w) (.cells #[.slice ap b.length cap, .int .i64 0] 58))
  have hgr := heap_alloc_new (W3 w) (.cells #[.slice ap b.length cap, .int .i64 0] 58)
  have HD := Lib.hid ((W3_dx w).kept (Kept.allocd (W3 w) (.cells #[.slice ap b.length cap, .int .i64 0] 58)))
  have HK := Lib.hid hkr
  have HR := Lib.hid (show RdS ((W3 w).alloc (.cells #[.slice ap b.length cap, .int .i64 0] 58)) (w.heap.size + 3) b b from
    ⟨_, 0, by rw [← W3_size]; exact hgr, h.keptNo hkr, fun j e => by have := hlt j e; omega, Nat.zero_le _, rfl⟩)
  have HL := Lib.hid hl
  have hmf : ∀ (fn : Fn) (first cap : Array Value) (w : World), (Instr.makeFunc fn first cap).run Tryd.prog w = .ok (.func fn first cap) w := fun _ _ _ _ => rfl
  obtain ⟨n, hn⟩ : ∃ n, n = b.length := ⟨_, rfl⟩
  rw [← hn] at HD HK HR ⊢
  have HN := Lib.hid hn
  clear hkr hgr h hl hn hcp hlt
  simp only [W3] at HD HK HR
  go_enter_defers Tryd.func9, Tryd.ntmps9
  go_wp2_with fail
  generalize (((w.alloc (.cells #[.int .i64 0, .string ⟨#[]⟩, .int .i64 0, .slice none 0 0] 26)).alloc (.cells #[.int .i64 0] 3)).alloc (.cells #[.int .i64 0] 27)).alloc (.cells #[.slice ap n cap, .int .i64 0] 58) = W at *
  generalize hH : w.heap.size = H at *
  have HH := Lib.hid hH
  clear hH
  have hrp := preply 8 0 (H + 3) b b W rfl HR.out HL.out
  rw [show (((0 : Nat) : Int)) = 0 from rfl] at hrp
  refine hrp.mono ?_
  clear hrp
  rintro e w2 ⟨hk, he⟩
  have HK2 := Lib.hid (Kept.trans' (S := NoBlock) HK.out hk (fun i hi e => by have := HH.out; omega))
  have HD2 := Lib.hid (HD.out.keptS hk (fun i hi e => by omega))
  have HSZ := Lib.hid HR.out.lt
  clear hk
  unfold DecEnd decP
  cases htk : repE 8 b with
  | error f =>
    rw [htk] at he
    simp only at he
    subst he
    refine leaves_cons (f := 22) (args := #[.pointer (some ⟨H, 0, none⟩), .pointer (some ⟨H + 1, 0, none⟩), .pointer (some ⟨H + 1 + 1, 0, none⟩)]) (by simp) (by simp [go_sem]) ?_
    refine (dcatch H _ _ _ _ _ _ (fltAt b f) (fltNo f) w2 (HD2.out)).mono ?_
    rintro e u' w'' ⟨rfl, rfl, hd9, hk9⟩
    obtain ⟨e0, e1, e2, e3⟩ := blk4 hd9.b0
    obtain ⟨e4, _⟩ := blk1' hd9.b1
    have e5 : w''.cell? ⟨H + 1 + 1, 0, none⟩ = _ := (blk1' hd9.b2).1
    simp [Leaves, settle, results, Tryd.results9, go_sem, e0, e1, e2, e3, e4, e5]
    refine ⟨(Kept.trans' HK2.out hk9 (fun i hi h => by have := HH.out; rcases h with rfl | rfl | rfl <;> omega)), leafM 0 [] 0, rfl, rfl, leafM_good _ _ _ _ _, fit_leaf 0 [] 0 (by decide) (by decide) (by simp)⟩
  | ok p =>
    obtain ⟨x, r⟩ := p
    rw [htk] at he
    simp only at he
    obtain ⟨v, rfl, ⟨m, rfl, rfl, hgm, hfm⟩, hr⟩ := he
    obtain ⟨apm, capm, hvm, _⟩ := hgm.row.parts
    obtain ⟨q, hq⟩ := hr.toP
    have hq2 := hq.le
    have hqv : b.length - r.length = q := by omega
    have hdec : decP b = (m.rep, q, 0) := by unfold decP; rw [htk]; simp only; rw [hqv]
    have HDEC := Lib.hid hdec
    clear hdec
    have hka := Kept.allocd w2 (.cells #[.int .i64 m.k, .string ⟨m.s.toArray⟩, .int .i64 m.n, .slice apm m.l.length capm] 26)
    have hga := heap_alloc_new w2 (.cells #[.int .i64 m.k, .string ⟨m.s.toArray⟩, .int .i64 m.n, .slice apm m.l.length capm] 26)
    have HG3 := Lib.hid hga
    have HK3 := Lib.hid (HK2.out.trans hka)
    have HD3 := Lib.hid (HD2.out.kept hka)
    have HQ3 := Lib.hid (hq.kept hka)
    have HGM := Lib.hid (hgm.keptN hka)
    have HFM := Lib.hid hfm
    have HVM := Lib.hid hvm
    have HS2 := Lib.hid (show H + 3 < w2.heap.size from hr.lt)
    unfold repA
    rw [hvm]
    unfold strV
    clear hr hq hq2 hka hga hgm hfm hvm htk hqv
    go_wp2_with fail
    generalize w2.alloc (.cells #[.int .i64 m.k, .string ⟨m.s.toArray⟩, .int .i64 m.n, .slice apm m.l.length capm] 26) = W5 at *
    generalize w2.heap.size = Z at *
    refine only_normal ?_
    have hcell := HQ3.out.cell.1
    refine wp_planC (fun W' => W'.cell? ⟨H + 3, 1, none⟩ = some (.int .i64 q)) 7 [.flt 1, .flt 2, .flt 3, .flt 4, .flt 5, .seg [0] 6, .seg [] 7, .seg [] 8] [] (by kernel_rfl) (by kernel_rfl) no_panic (fun _ _ h => h) hcell (fun n0 => ?_)
    repeat (refine planC_flt rfl rfl ?_; apply Exists.intro; refine ⟨fun w' hw' => ?_, ?_⟩; (go_simp; first | rfl | exact ⟨rfl, rfl⟩); simp only [Act.put, List.setIfInBounds_toArray, List.set_cons_succ, List.set_cons_zero])
    simp only [wpPlanC, pick, List.filterMap_cons, List.filterMap_nil, List.getElem?_cons_succ, List.getElem?_cons_zero]
    obtain ⟨y0, y1, y2, y3⟩ := blk4 HG3.out
    repeat (quiet_step (fail))
    refine wpQuiet_nil ?_
    rintro _ ⟨n1, rfl⟩
    clear y0 y1 y2 y3
    have hkd : Kept NoBlock W5 ((W5.drewN n0).drewN n1) := ((Kept.refl NoBlock W5).drewN n0).drewN n1
    have HD4 := Lib.hid (HD3.out.kept hkd)
    have HK4 := Lib.hid (HK3.out.trans hkd)
    have HGM4 := Lib.hid (HGM.out.keptN hkd)
    have z1 := kept_cell hkd hcell (fun h => h)
    have hlen5 : Z < W5.heap.size := lt_of_heap HG3.out
    generalize (W5.drewN n0).drewN n1 = W6 at *
    clear hkd hcell HD3 HK3 HGM HG3 HQ3
    obtain ⟨c0, c1, c2, c3⟩ := blk4 HD4.out.b0
    have f0 := fun i => frozenB HD4.out.b0 i
    have HS4 := Lib.hid (set4 HD4.out.b0 (.int .i64 m.k) (.string ⟨m.s.toArray⟩) (.int .i64 m.n) (.slice apm m.l.length capm))
    have HST := Lib.hid (HD4.out.set (.int .i64 m.k) (.string ⟨m.s.toArray⟩) (.int .i64 m.n) (.slice apm m.l.length capm) (.int .i64 q) (.int .i64 0))
    have hb1 := heap_set_ne (p := ⟨H, 3, none⟩) (v := .slice apm m.l.length capm) (heap_set_ne (p := ⟨H, 2, none⟩) (v := .int .i64 m.n) (heap_set_ne (p := ⟨H, 1, none⟩) (v := .string ⟨m.s.toArray⟩) (heap_set_ne (p := ⟨H, 0, none⟩) (v := .int .i64 m.k) HD4.out.b1 (by simp)) (by simp)) (by simp)) (by simp)
    have hb2 := heap_set_ne (p := ⟨H, 3, none⟩) (v := .slice apm m.l.length capm) (heap_set_ne (p := ⟨H, 2, none⟩) (v := .int .i64 m.n) (heap_set_ne (p := ⟨H, 1, none⟩) (v := .string ⟨m.s.toArray⟩) (heap_set_ne (p := ⟨H, 0, none⟩) (v := .int .i64 m.k) HD4.out.b2 (by simp)) (by simp)) (by simp)) (by simp)
    go_wp2_with fail
    have z1 := kept_cell HS4.out.2 z1 (by simp)
    refine Halt.mk ⟨.inr z1, ?_⟩
    generalize hW5 : (((W6.setCell ⟨H, 0, none⟩ (.int .i64 m.k)).setCell ⟨H, 1, none⟩ (.string ⟨m.s.toArray⟩)).setCell ⟨H, 2, none⟩ (.int .i64 m.n)).setCell ⟨H, 3, none⟩ (.slice apm m.l.length capm) = W7 at *
    have HB2 := Lib.hid hb2
    obtain ⟨d1, g1⟩ := blk1' hb1
    clear hW5 hb1 hb2 c0 c1 c2 c3 f0
    go_wp2_with fail
    have hk6 := kept_set W7 (H + 1) 0 (.int .i64 q)
    have z1 := kept_cell hk6 z1 (by simp)
    refine Halt.mk ⟨.inl trivial, ?_⟩
    have hb2 := heap_set_ne (p := ⟨H + 1, 0, none⟩) (v := .int .i64 q) HB2.out (by simp)
    obtain ⟨d2, g2⟩ := blk1' hb2
    have hk7 := kept_set (W7.setCell ⟨H + 1, 0, none⟩ (.int .i64 q)) (H + 2) 0 (.int .i64 0)
    have z2 := kept_cell hk7 z1 (by simp)
    clear hb2 hk6 hk7
    go_wp2_with fail
    refine Halt.mk ⟨.inr z2, trivial, ?_⟩
    have hst := HST.out
    generalize (W7.setCell ⟨H + 1, 0, none⟩ (.int .i64 q)).setCell ⟨H + 2, 0, none⟩ (.int .i64 0) = W9 at *
    clear z1 z2 d1 d2 g1 g2 HST
    have HST := Lib.hid hst
    clear hst
    go_wp2_with fail
    refine leaves_cons (f := 22) (args := #[.pointer (some ⟨H, 0, none⟩), .pointer (some ⟨H + 1, 0, none⟩), .pointer (some ⟨H + 1 + 1, 0, none⟩)]) (by simp) (by simp [go_sem]) ?_
    refine (didle _ _ _ _).mono ?_
    rintro e u' w'' ⟨rfl, rfl, rfl⟩
    obtain ⟨hd9, hk9⟩ := HST.out
    obtain ⟨e0, e1, e2, e3⟩ := blk4 hd9.b0
    obtain ⟨e4, _⟩ := blk1' hd9.b1
    have e5 : W9.cell? ⟨H + 1 + 1, 0, none⟩ = _ := (blk1' hd9.b2).1
    simp [Leaves, settle, results, Tryd.results9, go_sem, e0, e1, e2, e3, e4, e5]
    refine ⟨Kept.trans' HK4.out hk9 (fun i hi h => by have := HH.out; rcases h with rfl | rfl | rfl <;> omega), m, ?_, ?_, HGM4.out.kept hk9 (fun j _ hP h => by have := HSZ.out; rcases h with rfl | rfl | rfl <;> omega) (fun j _ hP => by have := HH.out; have := HSZ.out; omega), HFM.out⟩
    · rw [HDEC.out]
      unfold repA strV
      rw [HVM.out]
    · rw [HDEC.out]
end Go.Proofs.YtpekeilpdbdnnaaDoor
namespace Go.Proofs.YtpekeilpdbdnnaaDoor
open Go.RowKit
attribute [local go_sem] fold_part fold_some fold_some' partAt_zero

theorem bytes_freshF (w : World) (l : Bs) (fz : Nat × Nat) : BytesV (w.alloc (.cells (l.map bv).toArray 5 fz)) (.slice (some ⟨w.heap.size, 0, none⟩) l.length l.length) l := by
  refine RowV.mk ⟨by rw [List.length_map], fun _ => ⟨_, rfl, fun j v hj => ?_⟩⟩ (Nat.le_refl _) (fun h => by cases h)
  rw [addr_add, Nat.zero_add]
  exact cellB (heap_alloc_new w _) (by simpa using hj)
/-- The bytes of a constant, as the code lays them. -/
def constW (w : World) (l : Bs) : World := w.alloc (.cells (l.map bv).toArray 5 (l.length, l.length + 1))
theorem constW_kept (w : World) (l : Bs) : Kept NoBlock w (constW w l) := (Kept.refl _ w).alloc _
theorem const_size (w : World) (l : Bs) : (constW w l).heap.size = w.heap.size + 1 := by simp [constW]

theorem itoa3 : Lib.itoa (3 : Nat) = [51] := by
  rw [Lib.itoa_nonneg, Lib.decDigits]
  rfl
theorem abc_bytes : bytesR (leafM 4 [97, 98, 99] 0).rep = [36, 51, 13, 10, 97, 98, 99, 13, 10] := by
  rw [bytes_eq, if_neg (by decide), if_neg (by decide), if_neg (by decide), if_pos (by decide)]
  show 36 :: (Lib.itoa (3 : Nat) ++ _) = _
  rw [itoa3]
  rfl
theorem abc_check : checkR (leafM 4 [97, 98, 99] 0).rep = 0 := by decide
def s17 : Bs := [58, 45, 49, 55, 13, 10, 120, 121]
theorem dec_17 : decP s17 = (.mk 3 [] (-17) [], 6, 0) := by
  have : repE 8 s17 = .ok (.mk 3 [] (-17) [], [120, 121]) := by
    show repE 8 (58 :: [45, 49, 55, 13, 10, 120, 121]) = _
    rw [repE_58]
    have : integerB [45, 49, 55, 13, 10, 120, 121] = .ok (-17, [13, 10, 120, 121]) := by rfl
    rw [this]
    rfl
  unfold decP
  rw [this]
  rfl

set_option maxRecDepth 100000 in
set_option maxHeartbeats 3200000 in
theorem palive (b : Nat) (w : World) (hV : VsB w b) : Calls Tryd.prog 12 #[] w fun e w' => e = .returned (.bool true) ∧ Kept NoBlock w w' := by
  have he := pEncode (leafM 4 [97, 98, 99] 0) AnyB b w hV (leafM_good _ _ _ _ _) (fit_leaf _ _ _ (by decide) (by decide) (by simp)) (fun _ => by rw [abc_bytes]; decide)
  unfold EncEnd at he
  rw [abc_check, if_pos rfl, abc_bytes] at he
  have hd := fun (W : World) => pDecode _ s17 (constW W s17) (bytes_freshF W s17 _) (by decide) (fun j e => by rw [const_size]; simp [vblk] at e; omega)
  unfold DecEnd at hd
  rw [dec_17] at hd
  have kc := fun (w : World) (C : Array Value) (n c : Nat) => Lib.run_convert_bytes_const (P := Tryd.prog) w 22 5 C n c Tryd.underlying22 Tryd.underlying5
  have HE := Lib.hid he
  have HD := Lib.hid hd
  clear he hd hV
  simp only [repA, leafM, RepM.k, RepM.s, RepM.n, RepM.v, strV] at HE
  go_enter Tryd.func12, Tryd.ntmps12
  go_wp2_with fail
  refine HE.out.mono ?_
  rintro e w2 ⟨hk2, v, rfl, ho⟩
  obtain ⟨ap, cap, rfl, _⟩ := OwnM.form ho.t
  have hcv0 := ho.bytes
  have HK2 := Lib.hid hk2
  have HB := Lib.hid hcv0
  clear hk2 ho hcv0
  go_wp2_with fail
  have hd2 := HD.out w2
  refine hd2.mono ?_
  clear hd2
  rintro e w3 ⟨hk3, m, rfl, hmr, hgm, _⟩
  rw [m.rep_eq] at hmr
  obtain ⟨h1, h2, h3, h4⟩ : m.k = 3 ∧ m.s = [] ∧ m.n = -17 ∧ m.l.map RepM.rep = [] := by
    injection hmr with a b c d
    exact ⟨a, b, c, d⟩
  obtain ⟨apm, capm, hvm, _⟩ := hgm.row.parts
  have hk4 := (constW_kept w2 s17).trans hk3
  have hka := Kept.allocd w3 (.cells #[.int .i64 3, .string ⟨#[]⟩, .int .i64 (-17), .slice apm m.l.length capm] 26)
  have hga := heap_alloc_new w3 (.cells #[.int .i64 3, .string ⟨#[]⟩, .int .i64 (-17), .slice apm m.l.length capm] 26)
  obtain ⟨c0, c1, c2, c3⟩ := blk4 hga
  have hcv := conv_of ((HB.out.keptNo hk4).keptNo hka)
  simp only [List.length_cons, List.length_nil, Nat.zero_add, Nat.reduceAdd] at hcv
  have HK5 := Lib.hid ((HK2.out.trans hk4).trans hka)
  unfold repA strV
  rw [h1, h2, h3, hvm]
  clear hk3 hk4 hmr hgm h1 h2 h3 h4 hvm hka hga HB HD
  go_wp2_with fail
  go_ret
  exact ⟨rfl, HK5.out⟩
end Go.Proofs.YtpekeilpdbdnnaaDoor
