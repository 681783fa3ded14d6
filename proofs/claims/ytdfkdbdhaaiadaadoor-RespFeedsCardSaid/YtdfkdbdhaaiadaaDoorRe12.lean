/- A reader of requests: the first one. -/
import Derived.Test.YtdfkdbdhaaiadaaDoorRe11
namespace Go.Proofs.YtdfkdbdhaaiadaaDoor
open Go.RowKit
attribute [local go_sem] fold_part fold_some fold_some' partAt_zero

theorem five (w : World) (o0 o1 o2 o3 o4 : Obj) :
    let W := ((((w.alloc o0).alloc o1).alloc o2).alloc o3).alloc o4
    W.heap[w.heap.size]? = some o0 ∧ W.heap[w.heap.size + 1]? = some o1 ∧ W.heap[w.heap.size + 2]? = some o2 ∧ W.heap[w.heap.size + 3]? = some o3 ∧ W.heap[w.heap.size + 4]? = some o4 := by
  simp only [World.alloc]
  refine ⟨?_, ?_, ?_, ?_, ?_⟩ <;> (simp only [Array.getElem?_push, Array.size_push]; repeat (first | rw [if_neg (by omega)] | rw [if_pos trivial] | rw [if_pos (by omega)]))

/-- How 'first' ends, by the model's word. -/
def FirstEnd (g : Nat) (B : Option Nat) (l : Bs) (u : Nat) (M : Got (List Bs × Nat)) (w : World) (e : Ending) (w' : World) : Prop :=
  Kept (fun k => k = g) w w' ∧ match M with
  | .wait => e = .returned (.tuple #[.slice none 0 0, .string ⟨#[]⟩, .bool false]) ∧ RdAt w' g B l u
  | .wrong f => e = .returned (.tuple #[.slice none 0 0, .string ⟨f.toArray⟩, .bool false]) ∧ RdAt w' g B l u
  | .ok (L, m) => ∃ v, e = .returned (.tuple #[v, .string ⟨#[]⟩, .bool true]) ∧ OwnS w' w.heap.size v L ∧ RdAt w' g B (l.drop m) (u + m)

set_option maxRecDepth 100000 in
set_option maxHeartbeats 3200000 in
theorem pfirst_nil (g : Nat) (B : Option Nat) (u : Nat) (w : World) (h : RdAt w g B [] u) :
    Calls Tryd.prog 25 #[.pointer (some ⟨g, 0, none⟩)] w (FirstEnd g B [] u .wait w) := by
  have HR := Lib.hid h
  have hlt := h.lt
  obtain ⟨v, hg, hv, hB, hBg⟩ := h
  obtain ⟨ap, cap, rfl, hc1, hc2⟩ := hv.parts
  obtain ⟨c0, c1, f0, f1⟩ := blk2 hg
  have hmf : ∀ (fn : Fn) (first cap : Array Value) (w : World), (Instr.makeFunc fn first cap).run Tryd.prog w = .ok (.func fn first cap) w := fun _ _ _ _ => rfl
  clear hv hB hBg hc2 hg
  simp only [List.length_nil] at *
  have l1 : g < w.heap.size + 1 := by omega
  have l2 : g < w.heap.size + 1 + 1 := by omega
  have l3 : g < w.heap.size + 1 + 1 + 1 := by omega
  have l4 : g < w.heap.size + 1 + 1 + 1 + 1 := by omega
  go_enter_defers Tryd.func25, Tryd.ntmps25
  go_wp2
  refine leaves_cons (f := 29) (args := #[.pointer (some ⟨w.heap.size + 1, 0, none⟩), .pointer (some ⟨w.heap.size + 1 + 1, 0, none⟩), .pointer (some ⟨w.heap.size + 1 + 1 + 1, 0, none⟩), .pointer (some ⟨w.heap.size + 1 + 1 + 1 + 1, 0, none⟩), .pointer (some ⟨w.heap.size, 0, none⟩)]) (by simp) (by simp [go_sem]) ?_
  refine (pcatch_idle _ _ _ _ _ _).mono ?_
  rintro e u' w'' ⟨rfl, rfl, rfl⟩
  simp [Leaves, settle, results, Tryd.results25, go_sem]
  have hk : Kept NoBlock w (((((w.alloc (.cells #[.pointer (some ⟨g, 0, none⟩)] 53)).alloc (.cells #[.slice none 0 0] 48)).alloc (.cells #[.string ⟨#[]⟩] 9)).alloc (.cells #[.bool false] 4)).alloc (.cells #[.slice ap 0 cap, .int .i64 u] 55)) :=
    (((((Kept.refl NoBlock w).alloc _).alloc _).alloc _).alloc _).alloc _
  exact ⟨hk.anyS, rfl, HR.out.keptNo hk⟩

/-- The five boxes. -/
def W5 (w : World) (g : Nat) (ap : Option Addr) (n cap u : Nat) : World :=
  ((((w.alloc (.cells #[.pointer (some ⟨g, 0, none⟩)] 53)).alloc (.cells #[.slice none 0 0] 48)).alloc (.cells #[.string ⟨#[]⟩] 9)).alloc (.cells #[.bool false] 4)).alloc (.cells #[.slice ap n cap, .int .i64 u] 55)

theorem W5_kept (w : World) (g : Nat) (ap : Option Addr) (n cap u : Nat) : Kept NoBlock w (W5 w g ap n cap u) := (((((Kept.refl NoBlock w).alloc _).alloc _).alloc _).alloc _).alloc _
theorem W5_size (w : World) (g : Nat) (ap : Option Addr) (n cap u : Nat) : (W5 w g ap n cap u).heap.size = w.heap.size + 5 := by simp [W5]
theorem W5_fx (w : World) (g : Nat) (ap : Option Addr) (n cap u : Nat) (hg : w.heap[g]? = some (.cells #[.slice ap n cap, .int .i64 u] 57 (0, 0))) :
    Fx (W5 w g ap n cap u) w.heap.size g (.slice none 0 0) (.string ⟨#[]⟩) (.bool false) (.slice ap n cap) (.int .i64 u) (.slice ap n cap) (.int .i64 u) := by
  obtain ⟨b0, b1, b2, b3, b4⟩ := five w (.cells #[.pointer (some ⟨g, 0, none⟩)] 53) (.cells #[.slice none 0 0] 48) (.cells #[.string ⟨#[]⟩] 9) (.cells #[.bool false] 4) (.cells #[.slice ap n cap, .int .i64 u] 55)
  exact ⟨b0, b1, b2, b3, b4, (W5_kept w g ap n cap u).heap hg (fun h => h), lt_of_heap hg⟩

theorem Fx.reader {w w' : World} {H g : Nat} {lv bv mv x y a b a' b' : Value} (h : Fx w H g lv bv mv x y a b) (hk : Kept (fun k => k = g) w w') (hg : w'.heap[g]? = some (.cells #[a', b'] 57 (0, 0))) : Fx w' H g lv bv mv x y a' b' := by
  have hlt := h.lt
  exact ⟨hk.heap h.b0 (by omega), hk.heap h.b1 (by omega), hk.heap h.b2 (by omega), hk.heap h.b3 (by omega), hk.heap h.b4 (by omega), hg, hlt⟩

theorem Fx.told {w : World} {H g : Nat} {lv bv mv x y a b : Value} (h : Fx w H g lv bv mv x y a b) {lv' bv' mv' : Value} :
    Fx (((w.setCell ⟨H + 1, 0, none⟩ lv').setCell ⟨H + 2, 0, none⟩ bv').setCell ⟨H + 3, 0, none⟩ mv') H g lv' bv' mv' x y a b ∧
    Kept (fun k => k = H + 1 ∨ k = H + 2 ∨ k = H + 3) w (((w.setCell ⟨H + 1, 0, none⟩ lv').setCell ⟨H + 2, 0, none⟩ bv').setCell ⟨H + 3, 0, none⟩ mv') := by
  obtain ⟨h0, h1, h2, h3, h4, hg, hlt⟩ := h
  refine ⟨⟨?_, ?_, ?_, ?_, ?_, ?_, hlt⟩, ?_⟩
  · repeat (refine heap_set_ne ?_ (by simp only; omega))
    exact h0
  · refine heap_set_ne (heap_set_ne (heap_setCell_same h1 0 lv') ?_) ?_ <;> (simp only; omega)
  · refine heap_set_ne (heap_setCell_same (heap_set_ne h2 ?_) 0 bv') ?_ <;> (simp only; omega)
  · refine heap_setCell_same (heap_set_ne (heap_set_ne h3 ?_) ?_) 0 mv' <;> (simp only; omega)
  · repeat (refine heap_set_ne ?_ (by simp only; omega))
    exact h4
  · repeat (refine heap_set_ne ?_ (by simp only; omega))
    exact hg
  · exact Kept.setCell (S := fun k => k = H + 1 ∨ k = H + 2 ∨ k = H + 3) (Kept.setCell (S := fun k => k = H + 1 ∨ k = H + 2 ∨ k = H + 3) (Kept.setCell (S := fun k => k = H + 1 ∨ k = H + 2 ∨ k = H + 3) (Kept.refl _ w) (p := ⟨H + 1, 0, none⟩) (fun _ => by simp) _) (p := ⟨H + 2, 0, none⟩) (fun _ => by simp) _) (p := ⟨H + 3, 0, none⟩) (fun _ => by simp) _

theorem RdAt.value {w : World} {g : Nat} {B : Option Nat} {l : Bs} {u : Nat} (h : RdAt w g B l u) : ∃ ap cap, w.heap[g]? = some (.cells #[.slice ap l.length cap, .int .i64 u] 57 (0, 0)) ∧ BytesV w (.slice ap l.length cap) l ∧ vblk (.slice ap l.length cap) = B ∧ B ≠ some g := by
  obtain ⟨v, hg, hv, h1, h2⟩ := h
  obtain ⟨ap, cap, rfl, _, _⟩ := hv.parts
  exact ⟨ap, cap, hg, hv, h1, h2⟩

/-- Behind a fault the reader is as it was. -/
theorem caught_end {w w2 w' : World} {g : Nat} {B : Option Nat} {l : Bs} {u : Nat} {ap : Option Addr} {cap : Nat} {bad : Value}
    (hv : BytesV w (.slice ap l.length cap) l) (h1 : vblk (.slice ap l.length cap) = B) (h2 : B ≠ some g) (hBw : ∀ b, B = some b → b < w.heap.size) (hk : Kept (fun k => k = g) w w2)
    (hfx : Fx w' w.heap.size g (.slice none 0 0) bad (.bool false) (.slice ap l.length cap) (.int .i64 u) (.slice ap l.length cap) (.int .i64 u))
    (hkk : Kept (fun k => k = g ∨ k = w.heap.size + 1 ∨ k = w.heap.size + 2 ∨ k = w.heap.size + 3) w2 w') : Kept (fun k => k = g) w w' ∧ RdAt w' g B l u := by
  have h3 : Kept (fun k => k = g) w w' := hk.trans' hkk (fun i hi h => by rcases h with h | h | h | h <;> omega)
  exact ⟨h3, _, hfx.bg, hv.kept h3 (fun b e e2 => h2 (by rw [← h1, e, e2])), h1, h2⟩

set_option maxRecDepth 100000 in
set_option maxHeartbeats 3200000 in
theorem pfirst_star (W0 : World) (g : Nat) (B : Option Nat) (c : UInt8) (r : Bs) (u : Nat) (w : World) (hE : Env W0 w) (hW : W0.heap.size ≤ g) (h : RdAt w g B (c :: r) u) (hlu : u + (c :: r).length ≤ 100000000) (hBw : ∀ b, B = some b → b < w.heap.size) (hc : c = 42) :
    Calls Tryd.prog 25 #[.pointer (some ⟨g, 0, none⟩)] w (FirstEnd g B (c :: r) u (bulks parseV (c :: r)) w) := by
  have hlt := h.lt
  obtain ⟨ap, cap, hg, hv, hB, hBg⟩ := h.value
  obtain ⟨c0, c1, f0, f1⟩ := blk2 hg
  have hcall := pbulks W0 g B (c :: r) u (W5 w g ap (r.length + 1) cap u) (hE.step (W5_kept _ _ _ _ _ _) (fun _ _ h => h)) hW (h.keptNo (W5_kept _ _ _ _ _ _)) hlu (fun b e => by rw [W5_size]; have := hBw b e; omega) c rfl (by rw [hc]; decide)
  have hfx := W5_fx w g ap (r.length + 1) cap u hg
  have hc0 : ∃ ad, ap = some ad ∧ (W5 w g ap (r.length + 1) cap u).cell? ad = some (.int .u8 42) := by
    obtain ⟨ad, cap', e, _⟩ := hv.first
    cases e
    exact ⟨ad, rfl, by have := (hv.keptNo (W5_kept w g (some ad) (r.length + 1) cap u)).at0; rw [this, hc]; rfl⟩
  obtain ⟨ad, rfl, hcell⟩ := hc0
  have hmf : ∀ (fn : Fn) (first cap : Array Value) (w : World), (Instr.makeFunc fn first cap).run Tryd.prog w = .ok (.func fn first cap) w := fun _ _ _ _ => rfl
  generalize hM : bulks parseV (c :: r) = M at *
  have HC := Lib.hid hcall
  have HFX := Lib.hid hfx
  have HV := Lib.hid (show BytesV w (.slice (some ad) (r.length + 1) cap) (c :: r) from hv)
  have HB := Lib.hid (show vblk (.slice (some ad) (r.length + 1) cap) = B from hB)
  have HBg := Lib.hid hBg
  have HBw := Lib.hid hBw
  have HK5 := Lib.hid (W5_kept w g (some ad) (r.length + 1) cap u)
  have HS5 := Lib.hid (W5_size w g (some ad) (r.length + 1) cap u)
  have hl1 : (c :: r).length = r.length + 1 := rfl
  clear hM hcall hfx hv hB hBg hBw hlu h hc hg
  have l1 : g < w.heap.size + 1 := by omega
  have l2 : g < w.heap.size + 1 + 1 := by omega
  have l3 : g < w.heap.size + 1 + 1 + 1 := by omega
  have l4 : g < w.heap.size + 1 + 1 + 1 + 1 := by omega
  simp only [W5] at hcell
  rw [hl1] at c0
  clear hl1
  generalize hn : r.length = n at *
  have HN := Lib.hid hn
  clear hn
  go_enter_defers Tryd.func25, Tryd.ntmps25
  go_wp2_with fail
  refine HC.out.mono ?_
  rintro e w2 ⟨hk2, hend⟩
  have HK2 := Lib.hid (HK5.out.anyS.trans hk2)
  have HKK := Lib.hid hk2
  clear hcell
  rcases M with _ | f | ⟨L, m⟩
  · obtain ⟨rfl, x, y, hb⟩ := hend
    have hfx2 := HFX.out.reader hk2 hb
    have HFX2 := Lib.hid hfx2
    clear hfx2 hk2 hb HC
    refine leaves_cons (f := 29) (args := #[.pointer (some ⟨w.heap.size + 1, 0, none⟩), .pointer (some ⟨w.heap.size + 1 + 1, 0, none⟩), .pointer (some ⟨w.heap.size + 1 + 1 + 1, 0, none⟩), .pointer (some ⟨w.heap.size + 1 + 1 + 1 + 1, 0, none⟩), .pointer (some ⟨w.heap.size, 0, none⟩)]) (by simp) (by simp [go_sem]) ?_
    refine (pcatch_wait w.heap.size g _ _ _ _ _ _ _ _ _ w2 HFX2.out).mono ?_
    rintro e u' w'' ⟨rfl, rfl, hfx3, hkk⟩
    have hend2 := caught_end (ap := some ad) (cap := cap) (by rw [List.length_cons, HN.out]; exact HV.out) (by rw [List.length_cons, HN.out]; exact HB.out) HBg.out HBw.out HK2.out (by rw [List.length_cons, HN.out]; exact hfx3) hkk
    obtain ⟨e1, _⟩ := blk1' hfx3.b1
    obtain ⟨e2, _⟩ := blk1' hfx3.b2
    obtain ⟨e3, _⟩ := blk1' hfx3.b3
    simp [Leaves, settle, results, Tryd.results25, go_sem, e1, e2, e3]
    exact ⟨hend2.1, rfl, hend2.2⟩
  · obtain ⟨rfl, x, y, hb⟩ := hend
    have hfx2 := HFX.out.reader hk2 hb
    have HFX2 := Lib.hid hfx2
    clear hfx2 hk2 hb HC
    refine leaves_cons (f := 29) (args := #[.pointer (some ⟨w.heap.size + 1, 0, none⟩), .pointer (some ⟨w.heap.size + 1 + 1, 0, none⟩), .pointer (some ⟨w.heap.size + 1 + 1 + 1, 0, none⟩), .pointer (some ⟨w.heap.size + 1 + 1 + 1 + 1, 0, none⟩), .pointer (some ⟨w.heap.size, 0, none⟩)]) (by simp) (by simp [go_sem]) ?_
    refine (pcatch_fault w.heap.size g _ _ _ _ _ _ _ _ _ f w2 HFX2.out).mono ?_
    rintro e u' w'' ⟨rfl, rfl, hfx3, hkk⟩
    have hend2 := caught_end (ap := some ad) (cap := cap) (by rw [List.length_cons, HN.out]; exact HV.out) (by rw [List.length_cons, HN.out]; exact HB.out) HBg.out HBw.out HK2.out (by rw [List.length_cons, HN.out]; exact hfx3) hkk
    obtain ⟨e1, _⟩ := blk1' hfx3.b1
    obtain ⟨e2, _⟩ := blk1' hfx3.b2
    obtain ⟨e3, _⟩ := blk1' hfx3.b3
    simp [Leaves, settle, results, Tryd.results25, go_sem, e1, e2, e3]
    exact ⟨hend2.1, rfl, hend2.2⟩
  · obtain ⟨v, rfl, hown, hR2⟩ := hend
    have hrd := hR2
    obtain ⟨vr, hgr, _⟩ := hrd
    have hfx2 := HFX.out.reader hk2 hgr
    obtain ⟨e1, z1⟩ := blk1' hfx2.b1
    obtain ⟨e2, z2⟩ := blk1' hfx2.b2
    obtain ⟨e3, z3⟩ := blk1' hfx2.b3
    have hB5 : OwnS w2 (w.heap.size + 5) v L := by rw [← HS5.out]; exact hown
    obtain ⟨apv, capv, rfl, _⟩ := ownsRow_form hown
    have HR2 := Lib.hid hR2
    have HO := Lib.hid hB5
    have HFX2 := Lib.hid hfx2
    clear hfx2 hk2 hgr HC hR2 hown hB5
    go_wp2
    refine leaves_cons (f := 29) (args := #[.pointer (some ⟨w.heap.size + 1, 0, none⟩), .pointer (some ⟨w.heap.size + 1 + 1, 0, none⟩), .pointer (some ⟨w.heap.size + 1 + 1 + 1, 0, none⟩), .pointer (some ⟨w.heap.size + 1 + 1 + 1 + 1, 0, none⟩), .pointer (some ⟨w.heap.size, 0, none⟩)]) (by simp) (by simp [go_sem]) ?_
    refine (pcatch_idle _ _ _ _ _ _).mono ?_
    rintro e u' w'' ⟨rfl, rfl, rfl⟩
    have hT : Fx (((w2.setCell ⟨w.heap.size + 1, 0, none⟩ (.slice apv L.length capv)).setCell ⟨w.heap.size + 1 + 1, 0, none⟩ (.string ⟨#[]⟩)).setCell ⟨w.heap.size + 1 + 1 + 1, 0, none⟩ (.bool true)) w.heap.size g (.slice apv L.length capv) (.string ⟨#[]⟩) (.bool true) (.slice (some ad) (n + 1) cap) (.int .i64 u) vr (.int .i64 (u + m : Nat)) ∧
        Kept (fun k => k = w.heap.size + 1 ∨ k = w.heap.size + 2 ∨ k = w.heap.size + 3) w2 (((w2.setCell ⟨w.heap.size + 1, 0, none⟩ (.slice apv L.length capv)).setCell ⟨w.heap.size + 1 + 1, 0, none⟩ (.string ⟨#[]⟩)).setCell ⟨w.heap.size + 1 + 1 + 1, 0, none⟩ (.bool true)) := Fx.told HFX2.out
    generalize (((w2.setCell ⟨w.heap.size + 1, 0, none⟩ (.slice apv L.length capv)).setCell ⟨w.heap.size + 1 + 1, 0, none⟩ (.string ⟨#[]⟩)).setCell ⟨w.heap.size + 1 + 1 + 1, 0, none⟩ (.bool true)) = W' at hT ⊢
    obtain ⟨hT, hkk⟩ := hT
    clear e1 e2 e3 z1 z2 z3
    obtain ⟨e1, _⟩ := blk1' hT.b1
    have e2 : W'.cell? ⟨w.heap.size + 1 + 1, 0, none⟩ = _ := (blk1' hT.b2).1
    have e3 : W'.cell? ⟨w.heap.size + 1 + 1 + 1, 0, none⟩ = _ := (blk1' hT.b3).1
    simp [Leaves, settle, results, Tryd.results25, go_sem, e1, e2, e3]
    have hS5 := HS5.out
    have hkw : Kept (fun k => k = g) w W' := HK2.out.trans' hkk (fun i hi h => by omega)
    have hsz := HKK.out.size
    rw [hS5] at hsz
    exact ⟨hkw, _, rfl, (ownsRow_lower (HO.out.keptS hkk (fun k hk h => by omega)) (by omega)), HR2.out.keptS hkk (by omega) (fun b e h => by have := HBw.out b e; omega)⟩

set_option maxRecDepth 100000 in
set_option maxHeartbeats 3200000 in
theorem pfirst_line (W0 : World) (g : Nat) (B : Option Nat) (c : UInt8) (r : Bs) (u : Nat) (w : World) (hE : Env W0 w) (hW : W0.heap.size ≤ g) (h : RdAt w g B (c :: r) u) (hlu : u + (c :: r).length ≤ 100000000) (hBw : ∀ b, B = some b → b < w.heap.size) (hc : c ≠ 42) :
    Calls Tryd.prog 25 #[.pointer (some ⟨g, 0, none⟩)] w (FirstEnd g B (c :: r) u (line (c :: r)) w) := by
  have hlt := h.lt
  obtain ⟨ap, cap, hg, hv, hB, hBg⟩ := h.value
  obtain ⟨c0, c1, f0, f1⟩ := blk2 hg
  have hcall := pline W0 g B (c :: r) u (W5 w g ap (r.length + 1) cap u) (hE.step (W5_kept _ _ _ _ _ _) (fun _ _ h => h)) hW (h.keptNo (W5_kept _ _ _ _ _ _)) hlu (fun b e => by rw [W5_size]; have := hBw b e; omega)
  have hfx := W5_fx w g ap (r.length + 1) cap u hg
  have hc0 : ∃ ad, ap = some ad ∧ (W5 w g ap (r.length + 1) cap u).cell? ad = some (.int .u8 c.toNat) := by
    obtain ⟨ad, cap', e, _⟩ := hv.first
    cases e
    exact ⟨ad, rfl, by have := (hv.keptNo (W5_kept w g (some ad) (r.length + 1) cap u)).at0; exact this⟩
  obtain ⟨ad, rfl, hcell⟩ := hc0
  have hmf : ∀ (fn : Fn) (first cap : Array Value) (w : World), (Instr.makeFunc fn first cap).run Tryd.prog w = .ok (.func fn first cap) w := fun _ _ _ _ => rfl
  generalize hM : line (c :: r) = M at *
  have HC := Lib.hid hcall
  have HFX := Lib.hid hfx
  have HV := Lib.hid (show BytesV w (.slice (some ad) (r.length + 1) cap) (c :: r) from hv)
  have HB := Lib.hid (show vblk (.slice (some ad) (r.length + 1) cap) = B from hB)
  have HBg := Lib.hid hBg
  have HBw := Lib.hid hBw
  have HK5 := Lib.hid (W5_kept w g (some ad) (r.length + 1) cap u)
  have HS5 := Lib.hid (W5_size w g (some ad) (r.length + 1) cap u)
  have hne : ¬ (c.toNat : Int) = 42 := fun e => hc (UInt8.toNat_inj.1 (by show c.toNat = 42; omega))
  have hl1 : (c :: r).length = r.length + 1 := rfl
  clear hM hcall hfx hv hB hBg hBw hlu h hc hg
  have l1 : g < w.heap.size + 1 := by omega
  have l2 : g < w.heap.size + 1 + 1 := by omega
  have l3 : g < w.heap.size + 1 + 1 + 1 := by omega
  have l4 : g < w.heap.size + 1 + 1 + 1 + 1 := by omega
  simp only [W5] at hcell
  rw [hl1] at c0
  clear hl1
  generalize hn : r.length = n at *
  have HN := Lib.hid hn
  clear hn
  go_enter_defers Tryd.func25, Tryd.ntmps25
  go_wp2_with fail
  refine HC.out.mono ?_
  rintro e w2 ⟨hk2, hend⟩
  have HK2 := Lib.hid (HK5.out.anyS.trans hk2)
  have HKK := Lib.hid hk2
  clear hcell
  rcases M with _ | f | ⟨L, m⟩
  · obtain ⟨rfl, x, y, hb⟩ := hend
    have hfx2 := HFX.out.reader hk2 hb
    have HFX2 := Lib.hid hfx2
    clear hfx2 hk2 hb HC
    refine leaves_cons (f := 29) (args := #[.pointer (some ⟨w.heap.size + 1, 0, none⟩), .pointer (some ⟨w.heap.size + 1 + 1, 0, none⟩), .pointer (some ⟨w.heap.size + 1 + 1 + 1, 0, none⟩), .pointer (some ⟨w.heap.size + 1 + 1 + 1 + 1, 0, none⟩), .pointer (some ⟨w.heap.size, 0, none⟩)]) (by simp) (by simp [go_sem]) ?_
    refine (pcatch_wait w.heap.size g _ _ _ _ _ _ _ _ _ w2 HFX2.out).mono ?_
    rintro e u' w'' ⟨rfl, rfl, hfx3, hkk⟩
    have hend2 := caught_end (ap := some ad) (cap := cap) (by rw [List.length_cons, HN.out]; exact HV.out) (by rw [List.length_cons, HN.out]; exact HB.out) HBg.out HBw.out HK2.out (by rw [List.length_cons, HN.out]; exact hfx3) hkk
    obtain ⟨e1, _⟩ := blk1' hfx3.b1
    obtain ⟨e2, _⟩ := blk1' hfx3.b2
    obtain ⟨e3, _⟩ := blk1' hfx3.b3
    simp [Leaves, settle, results, Tryd.results25, go_sem, e1, e2, e3]
    exact ⟨hend2.1, rfl, hend2.2⟩
  · obtain ⟨rfl, x, y, hb⟩ := hend
    have hfx2 := HFX.out.reader hk2 hb
    have HFX2 := Lib.hid hfx2
    clear hfx2 hk2 hb HC
    refine leaves_cons (f := 29) (args := #[.pointer (some ⟨w.heap.size + 1, 0, none⟩), .pointer (some ⟨w.heap.size + 1 + 1, 0, none⟩), .pointer (some ⟨w.heap.size + 1 + 1 + 1, 0, none⟩), .pointer (some ⟨w.heap.size + 1 + 1 + 1 + 1, 0, none⟩), .pointer (some ⟨w.heap.size, 0, none⟩)]) (by simp) (by simp [go_sem]) ?_
    refine (pcatch_fault w.heap.size g _ _ _ _ _ _ _ _ _ f w2 HFX2.out).mono ?_
    rintro e u' w'' ⟨rfl, rfl, hfx3, hkk⟩
    have hend2 := caught_end (ap := some ad) (cap := cap) (by rw [List.length_cons, HN.out]; exact HV.out) (by rw [List.length_cons, HN.out]; exact HB.out) HBg.out HBw.out HK2.out (by rw [List.length_cons, HN.out]; exact hfx3) hkk
    obtain ⟨e1, _⟩ := blk1' hfx3.b1
    obtain ⟨e2, _⟩ := blk1' hfx3.b2
    obtain ⟨e3, _⟩ := blk1' hfx3.b3
    simp [Leaves, settle, results, Tryd.results25, go_sem, e1, e2, e3]
    exact ⟨hend2.1, rfl, hend2.2⟩
  · obtain ⟨v, rfl, hown, hR2⟩ := hend
    have hrd := hR2
    obtain ⟨vr, hgr, _⟩ := hrd
    have hfx2 := HFX.out.reader hk2 hgr
    obtain ⟨e1, z1⟩ := blk1' hfx2.b1
    obtain ⟨e2, z2⟩ := blk1' hfx2.b2
    obtain ⟨e3, z3⟩ := blk1' hfx2.b3
    have hB5 : OwnS w2 (w.heap.size + 5) v L := by rw [← HS5.out]; exact hown
    obtain ⟨apv, capv, rfl, _⟩ := ownsRow_form hown
    have HR2 := Lib.hid hR2
    have HO := Lib.hid hB5
    have HFX2 := Lib.hid hfx2
    clear hfx2 hk2 hgr HC hR2 hown hB5
    go_wp2
    refine leaves_cons (f := 29) (args := #[.pointer (some ⟨w.heap.size + 1, 0, none⟩), .pointer (some ⟨w.heap.size + 1 + 1, 0, none⟩), .pointer (some ⟨w.heap.size + 1 + 1 + 1, 0, none⟩), .pointer (some ⟨w.heap.size + 1 + 1 + 1 + 1, 0, none⟩), .pointer (some ⟨w.heap.size, 0, none⟩)]) (by simp) (by simp [go_sem]) ?_
    refine (pcatch_idle _ _ _ _ _ _).mono ?_
    rintro e u' w'' ⟨rfl, rfl, rfl⟩
    have hT : Fx (((w2.setCell ⟨w.heap.size + 1, 0, none⟩ (.slice apv L.length capv)).setCell ⟨w.heap.size + 1 + 1, 0, none⟩ (.string ⟨#[]⟩)).setCell ⟨w.heap.size + 1 + 1 + 1, 0, none⟩ (.bool true)) w.heap.size g (.slice apv L.length capv) (.string ⟨#[]⟩) (.bool true) (.slice (some ad) (n + 1) cap) (.int .i64 u) vr (.int .i64 (u + m : Nat)) ∧
        Kept (fun k => k = w.heap.size + 1 ∨ k = w.heap.size + 2 ∨ k = w.heap.size + 3) w2 (((w2.setCell ⟨w.heap.size + 1, 0, none⟩ (.slice apv L.length capv)).setCell ⟨w.heap.size + 1 + 1, 0, none⟩ (.string ⟨#[]⟩)).setCell ⟨w.heap.size + 1 + 1 + 1, 0, none⟩ (.bool true)) := Fx.told HFX2.out
    generalize (((w2.setCell ⟨w.heap.size + 1, 0, none⟩ (.slice apv L.length capv)).setCell ⟨w.heap.size + 1 + 1, 0, none⟩ (.string ⟨#[]⟩)).setCell ⟨w.heap.size + 1 + 1 + 1, 0, none⟩ (.bool true)) = W' at hT ⊢
    obtain ⟨hT, hkk⟩ := hT
    clear e1 e2 e3 z1 z2 z3
    obtain ⟨e1, _⟩ := blk1' hT.b1
    have e2 : W'.cell? ⟨w.heap.size + 1 + 1, 0, none⟩ = _ := (blk1' hT.b2).1
    have e3 : W'.cell? ⟨w.heap.size + 1 + 1 + 1, 0, none⟩ = _ := (blk1' hT.b3).1
    simp [Leaves, settle, results, Tryd.results25, go_sem, e1, e2, e3]
    have hS5 := HS5.out
    have hkw : Kept (fun k => k = g) w W' := HK2.out.trans' hkk (fun i hi h => by omega)
    have hsz := HKK.out.size
    rw [hS5] at hsz
    exact ⟨hkw, _, rfl, (ownsRow_lower (HO.out.keptS hkk (fun k hk h => by omega)) (by omega)), HR2.out.keptS hkk (by omega) (fun b e h => by have := HBw.out b e; omega)⟩

theorem pfirst (W0 : World) (g : Nat) (B : Option Nat) (l : Bs) (u : Nat) (w : World) (hE : Env W0 w) (hW : W0.heap.size ≤ g) (h : RdAt w g B l u) (hlu : u + l.length ≤ 100000000) (hBw : ∀ b, B = some b → b < w.heap.size) :
    Calls Tryd.prog 25 #[.pointer (some ⟨g, 0, none⟩)] w (FirstEnd g B l u (first parseV l) w) := by
  cases l with
  | nil => exact pfirst_nil g B u w h
  | cons c r =>
    by_cases hc : c = 42
    · have e : first parseV (c :: r) = bulks parseV (c :: r) := by unfold first; simp only [List.head?_cons]; rw [if_pos hc]
      rw [e]
      exact pfirst_star W0 g B c r u w hE hW h hlu hBw hc
    · have e : first parseV (c :: r) = line (c :: r) := by unfold first; simp only [List.head?_cons]; rw [if_neg hc]
      rw [e]
      exact pfirst_line W0 g B c r u w hE hW h hlu hBw hc
end Go.Proofs.YtdfkdbdhaaiadaaDoor
