/- Merged: The document's reader: so many bytes, numbers, texts; The document's reader: a value; The document's reader: an entry; The document's Decode: plain facts; The document's Decode; The document's Decode, walked; What is read of any bytes: the laws. -/
import Derived.Test.YtfhlhpknobkplaaDoorZLy
set_option linter.all false
namespace Go.Proofs.YtfhlhpknobkplaaDoor
open Go.RowKit
attribute [local go_sem] fold_part fold_some fold_some' partAt_zero

/-- The document's reader at g: with what is left, or bad. -/
def StR (w : World) (g : Nat) : Option Bs → Prop
  | some l => ∃ v, w.heap[g]? = some (.cells #[v, .bool false] 70 (0, 0)) ∧ BytesV w v l ∧ ∀ b, vblk v = some b → b < g
  | none => ∃ v, w.heap[g]? = some (.cells #[v, .bool true] 70 (0, 0))
theorem StR.lt {w : World} {g : Nat} {o : Option Bs} (h : StR w g o) : g < w.heap.size := by
  cases o with
  | none => obtain ⟨v, h⟩ := h; exact lt_of_heap h
  | some l => obtain ⟨v, h, _⟩ := h; exact lt_of_heap h
theorem StR.keptS {S : Nat → Prop} {w w' : World} {g : Nat} {o : Option Bs} (h : StR w g o) (hk : Kept S w w') (hS : ∀ i, i ≤ g → ¬ S i) : StR w' g o := by
  cases o with
  | none => obtain ⟨v, h⟩ := h; exact ⟨v, hk.heap h (hS g (Nat.le_refl _))⟩
  | some l => obtain ⟨v, hg, hv, h1⟩ := h; exact ⟨v, hk.heap hg (hS g (Nat.le_refl _)), hv.kept hk (fun b e => hS b (Nat.le_of_lt (h1 b e))), h1⟩
theorem StR.kept {w w' : World} {g : Nat} {o : Option Bs} (h : StR w g o) (hk : Kept NoBlock w w') : StR w' g o := h.keptS hk (fun _ _ h => h)

/-- How a call on it ends: by the model's word; a bad reader tells something. -/
def EndR {α : Type} (g : Nat) (M : Option (α × Bs)) (ret : α → Value → World → Prop) (bad : Value → Prop) (w : World) (e : Ending) (w' : World) : Prop :=
  KG g w w' ∧ ∃ v, e = .returned v ∧ match M with
  | none => bad v ∧ StR w' g none
  | some (a, r) => ret a v w' ∧ StR w' g (some r)

theorem blk2' {w : World} {g : Nat} {a b : Value} {T : TypeId} (h : w.heap[g]? = some (.cells #[a, b] T (0, 0))) :
    w.cell? ⟨g, 0, none⟩ = some a ∧ w.cell? ⟨g, 1, none⟩ = some b ∧ w.frozen? ⟨g, 0, none⟩ = false ∧ w.frozen? ⟨g, 1, none⟩ = false := ⟨cellB h rfl, cellB h rfl, frozenB h 0, frozenB h 1⟩
theorem kg_set {w : World} (g i : Nat) (v : Value) : KG g w (w.setCell ⟨g, i, none⟩ v) := Kept.setCell (S := fun k => k = g) (p := ⟨g, i, none⟩) (Kept.refl _ w) (fun _ => rfl) _

set_option maxRecDepth 100000 in
theorem rtakeR (g : Nat) (o : Option Bs) (n : Nat) (w : World) (h : StR w g o) (hn : n ≤ 4294967296) (hl : ∀ l, o = some l → l.length ≤ 1000000000) :
    Calls Tryd.prog 41 #[.pointer (some ⟨g, 0, none⟩), .int .u64 n] w (EndR g (o.bind (takeB n)) retB (fun v => v = .slice none 0 0) w) := by
  cases o with
  | none =>
    obtain ⟨v, hg⟩ := h
    obtain ⟨c0, c1, f0, f1⟩ := blk2' hg
    have HG := Lib.hid hg
    clear hg hl
    go_enter Tryd.func41, Tryd.ntmps41
    go_wp2_with fail
    go_ret
    exact ⟨kg_set g 1 _, _, rfl, rfl, v, heap_setCell_same HG.out 1 _⟩
  | some l =>
    obtain ⟨v, hg, hb, hbl⟩ := h
    have hll := hl l rfl
    obtain ⟨ap, cap, rfl, hc, hnil⟩ := hb.parts
    obtain ⟨c0, c1, f0, f1⟩ := blk2' hg
    rw [Option.bind_some]
    generalize hM : takeB n l = M
    unfold takeB at hM
    have HB := Lib.hid hb
    have HG := Lib.hid hg
    have HBL := Lib.hid hbl
    have h1 := fun hlt => BytesV.front hb n hlt
    have h2 := fun hlt => BytesV.tail hb n hlt
    generalize hlen : l.length = m at *
    have HLEN := Lib.hid hlen
    have hu : IntKind.u64.wrap (m : Int) = (m : Int) := u64_wrap_id _ (by omega) (by omega)
    by_cases hlt : n ≤ m
    · rw [if_pos hlt] at hM
      subst hM
      have H1 := Lib.hid (h1 hlt)
      have H2 := Lib.hid (h2 hlt)
      have hi : IntKind.i64.wrap (n : Int) = (n : Int) := IntWalk.i64_in _ (by omega)
      clear hb hg hbl hlen h1 h2 hnil hl
      go_enter Tryd.func41, Tryd.ntmps41
      go_wp2_with fail
      go_ret
      have hk := kg_set (w := w) g 0 (.slice (partAt ap n cap) (m - n) (cap - n))
      refine ⟨hk, _, rfl, H1.out.kept hk (fun b e h => ?_), _, heap_setCell_same HG.out 0 _, H2.out.kept hk (fun b e h => ?_), fun b e => ?_⟩
      · have := HBL.out b (by rw [vblk_slice] at e ⊢; exact e)
        omega
      · have := HBL.out b (by rw [partAt_blk (n' := m) (c' := cap)] at e; exact e)
        omega
      · exact HBL.out b (by rw [partAt_blk (n' := m) (c' := cap)] at e; exact e)
    · rw [if_neg hlt] at hM
      subst hM
      clear hb hg hbl hlen hnil h1 h2 hl
      go_enter Tryd.func41, Tryd.ntmps41
      go_wp2_with fail
      go_ret
      exact ⟨kg_set g 1 _, _, rfl, rfl, _, heap_setCell_same HG.out 1 _⟩

set_option maxRecDepth 100000 in
theorem rnumR (g : Nat) (o : Option Bs) (n : Nat) (w : World) (h : StR w g o) (hn : n ≤ 8) (hl : ∀ l, o = some l → l.length ≤ 1000000000) :
    Calls Tryd.prog 30 #[.pointer (some ⟨g, 0, none⟩), .int .i64 n] w (EndR g (o.bind (numB n)) retU (fun v => v = .int .u64 0) w) := by
  have ht := rtakeR g o n w h (by omega) hl
  have hu : IntKind.u64.wrap (n : Int) = (n : Int) := u64_wrap_id _ (by omega) (by omega)
  have HT := Lib.hid ht
  obtain ⟨M, hM⟩ : ∃ M, M = o.bind (numB n) := ⟨_, rfl⟩
  rw [← hM]
  have HM := Lib.hid hM
  clear ht h hl hM
  go_enter Tryd.func30, Tryd.ntmps30
  go_wp2_with fail
  (with_reducible refine HT.out.mono ?_)
  rintro e w2 ⟨hk, v, rfl, hm⟩
  cases htk : o.bind (takeB n) with
  | none =>
    rw [htk] at hm
    obtain ⟨rfl, hs⟩ := hm
    have hMn : M = none := by
      rw [HM.out]
      cases o with
      | none => rfl
      | some l =>
        rw [Option.bind_some] at htk ⊢
        unfold numB
        rw [htk]
    subst hMn
    have HK := Lib.hid hk
    have HS := Lib.hid hs
    clear hk hs htk
    go_wp2_with fail
    go_loopw [6, 7] (fun v6 v7 wr => v6 = .int .u64 0 ∧ v7 = .int .i64 (-1) ∧ wr = w2) (fun _ _ _ => 0)
    case atStart => exact ⟨rfl, rfl, rfl⟩
    case round =>
      obtain ⟨rfl, rfl, rfl⟩ := hrel
      go_wp2_with fail
      go_ret
      exact ⟨HK.out, _, rfl, rfl, HS.out⟩
  | some p =>
    obtain ⟨x, r⟩ := p
    rw [htk] at hm
    obtain ⟨hb, hs⟩ := hm
    have hb : BytesV w2 v x := hb
    have hMs : M = some (leV x, r) ∧ x.length = n := by
      rw [HM.out]
      cases o with
      | none => cases htk
      | some l =>
        rw [Option.bind_some] at htk ⊢
        refine ⟨?_, (takeB_len htk).1⟩
        unfold numB
        rw [htk]
    obtain ⟨hMs, hxn⟩ := hMs
    subst hMs
    obtain ⟨ap, cap, rfl, _⟩ := hb.parts
    have HB := Lib.hid hb
    have HK := Lib.hid hk
    have HS := Lib.hid hs
    rw [hxn] at HB ⊢
    have HXN := Lib.hid hxn
    clear hb hk hs htk hxn hu
    go_wp2_with fail
    go_loopw [6, 7] (fun v6 v7 wr => ∃ (k : Nat) (z : Int), v6 = .int .u64 (leV (x.drop k)) ∧ v7 = .int .i64 z ∧ z = (k : Int) - 1 ∧ k ≤ n ∧ wr = w2) (fun _ v7 _ => (intOf v7 + 1).toNat)
    case atStart =>
      refine ⟨n, (n : Int) - 1, ?_, by go_num, rfl, Nat.le_refl _, rfl⟩
      rw [List.drop_of_length_le (by rw [HXN.out]; exact Nat.le_refl _)]
      rfl
    case round =>
      obtain ⟨k, z, rfl, rfl, hz, hk, rfl⟩ := hrel
      by_cases hk0 : k = 0
      · subst hk0
        obtain rfl : z = -1 := by omega
        rw [List.drop_zero]
        clear hz hk
        go_wp2_with fail
        go_ret
        exact ⟨HK.out, _, rfl, rfl, HS.out⟩
      · obtain ⟨j, rfl⟩ : ∃ j, k = j + 1 := ⟨k - 1, by omega⟩
        obtain rfl : z = (j : Int) := by omega
        have hjl : j < x.length := by rw [HXN.out]; omega
        obtain ⟨c, hc⟩ : ∃ c, c = x[j] := ⟨_, rfl⟩
        have hlv : leV (x.drop j) = c.toNat + 256 * leV (x.drop (j + 1)) := by
          rw [List.drop_eq_getElem_cons hjl, ← hc]; rfl
        have hlt : leV (x.drop j) < 18446744073709551616 := by
          have h1 := leV_lt (x.drop j)
          have h2 : 256 ^ (x.drop j).length ≤ 256 ^ 8 := Nat.pow_le_pow_right (by decide) (by rw [List.length_drop, HXN.out]; omega)
          omega
        obtain ⟨ad, rfl, a0⟩ := RowV.cell (show RowV wr _ _ from HB.out) (i := j) (v := bv c) (by rw [List.getElem?_map, List.getElem?_eq_getElem hjl, ← hc]; rfl)
        unfold bv at a0
        obtain ⟨t, ht⟩ : ∃ t, t = leV (x.drop j) := ⟨_, rfl⟩
        rw [← ht] at hlv hlt
        have HTT := Lib.hid ht
        generalize hy : leV (x.drop (j + 1)) = y at *
        obtain ⟨z2, hz2⟩ : ∃ z2 : Nat, z2 = y * 256 := ⟨_, rfl⟩
        have hq1 : IntKind.u64.wrap ((y : Int) * 256) = (z2 : Int) := by rw [hz2]; rw [u64_wrap_id _ (by omega) (by omega)]; omega
        have hq2 : IntKind.u64.wrap ((z2 : Int) + (c.toNat : Int)) = (t : Int) := by rw [u64_wrap_id _ (by omega) (by omega)]; omega
        have hq0 : IntKind.u64.wrap (c.toNat : Int) = (c.toNat : Int) := u64_wrap_id _ (by omega) (by have := c.toNat_lt; omega)
        have hjn : j < n := by omega
        have HLV := Lib.hid hlv
        clear hlv hlt hy hz2 hc hz ht hjl hk0 hk
        go_wp2_with fail
        go_roundw
        case rel => exact ⟨j, (j : Int) - 1, by rw [← HTT.out], by go_num, rfl, by omega, trivial⟩
        case measure => simp [intOf]

theorem numO_len {n k : Nat} {o : Option Bs} {r : Bs} (h : o.bind (numB n) = some (k, r)) : ∃ l, o = some l ∧ numB n l = some (k, r) := by
  cases o with
  | none => cases h
  | some l => exact ⟨l, rfl, h⟩
theorem txtO (o : Option Bs) : o.bind txtB = match o.bind (numB 4) with | some (n, r) => takeB n r | none => none := by
  cases o with
  | none => rfl
  | some l =>
    rw [Option.bind_some, Option.bind_some]
    unfold txtB
    rfl

set_option maxRecDepth 100000 in
theorem rtextR (g : Nat) (o : Option Bs) (w : World) (h : StR w g o) (hl : ∀ l, o = some l → l.length ≤ 1000000000) :
    Calls Tryd.prog 42 #[.pointer (some ⟨g, 0, none⟩)] w (EndR g (o.bind txtB) retT (fun v => v = strV []) w) := by
  have ht := rnumR g o 4 w h (by decide) hl
  rw [show (((4 : Nat) : Int)) = 4 from rfl] at ht
  have HT := Lib.hid ht
  obtain ⟨M, hM⟩ : ∃ M, M = o.bind txtB := ⟨_, rfl⟩
  rw [← hM]
  rw [txtO] at hM
  have HM := Lib.hid hM
  have HL := Lib.hid hl
  clear ht h hl hM
  go_enter Tryd.func42, Tryd.ntmps42
  go_wp2_with fail
  (with_reducible refine HT.out.mono ?_)
  rintro e w2 ⟨hk, v, rfl, hm⟩
  cases htk : o.bind (numB 4) with
  | none =>
    rw [htk] at hm
    obtain ⟨rfl, hs⟩ := hm
    have hMn : M = none := by rw [HM.out, htk]
    subst hMn
    have HT2 := Lib.hid (rtakeR g none 0 w2 hs (by decide) (fun l h => by cases h))
    have HK := Lib.hid hk
    clear hk hs htk HM
    go_wp2_with fail
    refine HT2.out.mono ?_
    rintro e w3 ⟨hk, v, rfl, rfl, hs⟩
    have HK3 := Lib.hid (HK.out.trans hk)
    have HS3 := Lib.hid hs
    have hcv := conv_of (show BytesV w3 (.slice none 0 0) [] from RowV.nil w3)
    clear hk hs
    go_wp2_with fail
    go_ret
    exact ⟨HK3.out, _, rfl, rfl, HS3.out⟩
  | some p =>
    obtain ⟨n, r⟩ := p
    rw [htk] at hm
    obtain ⟨hv, hs⟩ := hm
    have hv : v = .int .u64 n := hv
    subst hv
    obtain ⟨l, hol, hnl⟩ := numO_len htk
    have hn4 := numB_bound hnl
    have hrl := numB_len hnl
    have hll := HL.out l hol
    have HT2 := Lib.hid (rtakeR g (some r) n w2 hs hn4 (fun l' h => by cases h; omega))
    have hMn : M = takeB n r := by rw [HM.out, htk]
    have HK := Lib.hid hk
    clear hk hs htk HM hol hnl hn4 hrl hll
    have HM := Lib.hid hMn
    clear hMn
    go_wp2_with fail
    (with_reducible refine HT2.out.mono ?_)
    rintro e w3 ⟨hk, v, rfl, hm⟩
    rw [Option.bind_some, ← HM.out] at hm
    have HK3 := Lib.hid (HK.out.trans hk)
    clear hk HM
    cases M with
    | none =>
      obtain ⟨rfl, hs⟩ := hm
      have HS3 := Lib.hid hs
      have hcv := conv_of (show BytesV w3 (.slice none 0 0) [] from RowV.nil w3)
      clear hs
      go_wp2_with fail
      go_ret
      exact ⟨HK3.out, _, rfl, rfl, HS3.out⟩
    | some p =>
      obtain ⟨x, q⟩ := p
      obtain ⟨hb, hs⟩ := hm
      have hb : BytesV w3 v x := hb
      obtain ⟨ap, cap, rfl, _⟩ := hb.parts
      have hcv := conv_of hb
      have HS3 := Lib.hid hs
      clear hs hb
      go_wp2_with fail
      go_ret
      exact ⟨HK3.out, _, rfl, rfl, HS3.out⟩
end Go.Proofs.YtfhlhpknobkplaaDoor
namespace Go.Proofs.YtfhlhpknobkplaaDoor
open Go.RowKit
attribute [local go_sem] fold_part fold_some fold_some' partAt_zero

/-- What a bad reader tells of a value. -/
def badV (k : Int) (v : Value) : Prop := ∃ (s : Bs) (a1 : Option Addr) (n1 c1 : Nat) (a2 : Option Addr) (n2 c2 : Nat) (a3 : Option Addr) (n3 c3 : Nat), v = .agg #[.int .i64 k, strV s, .slice a1 n1 c1, .slice a2 n2 c2, .slice a3 n3 c3]
/-- A call's end, bad or not. -/
theorem text_any {g : Nat} {o : Option Bs} {w : World} {e : Ending} {w' : World} (h : EndR g (o.bind txtB) retT (fun v => v = strV []) w e w') :
    ∃ (s : Bs) (o' : Option Bs), e = .returned (strV s) ∧ KG g w w' ∧ StR w' g o' ∧ ((o.bind txtB = none ∧ o' = none) ∨ ∃ q, o' = some q ∧ o.bind txtB = some (s, q)) := by
  obtain ⟨hk, v, rfl, hm⟩ := h
  cases ht : o.bind txtB with
  | none => rw [ht] at hm; obtain ⟨rfl, hs⟩ := hm; exact ⟨[], none, rfl, hk, hs, .inl ⟨rfl, rfl⟩⟩
  | some p =>
    obtain ⟨s, q⟩ := p
    rw [ht] at hm
    obtain ⟨hv, hs⟩ := hm
    have hv : v = strV s := hv
    subst hv
    exact ⟨s, some q, rfl, hk, hs, .inr ⟨q, rfl, rfl⟩⟩
theorem num_any {g n : Nat} {o : Option Bs} {w : World} {e : Ending} {w' : World} (h : EndR g (o.bind (numB n)) retU (fun v => v = .int .u64 0) w e w') :
    ∃ (y : Nat) (o' : Option Bs), e = .returned (.int .u64 y) ∧ y < 256 ^ n ∧ KG g w w' ∧ StR w' g o' ∧ ((o.bind (numB n) = none ∧ o' = none ∧ y = 0) ∨ ∃ q, o' = some q ∧ o.bind (numB n) = some (y, q)) := by
  obtain ⟨hk, v, rfl, hm⟩ := h
  cases ht : o.bind (numB n) with
  | none => rw [ht] at hm; obtain ⟨rfl, hs⟩ := hm; exact ⟨0, none, rfl, Nat.pow_pos (by decide), hk, hs, .inl ⟨rfl, rfl, rfl⟩⟩
  | some p =>
    obtain ⟨y, q⟩ := p
    rw [ht] at hm
    obtain ⟨hv, hs⟩ := hm
    have hv : v = .int .u64 y := hv
    subst hv
    obtain ⟨l, _, hl⟩ := numO_len ht
    exact ⟨y, some q, rfl, numB_lt hl, hk, hs, .inr ⟨q, rfl, rfl⟩⟩
/-- A value is handed back: its box was stored. -/
theorem vendR {g b : Nat} {w w3 W6 : World} {k : Int} {s : Bs} {L : List Bs} {Z : List (Bs × Int)} {H : List (Bs × Bs)} {o : Option Bs} {M : Option (Val × Bs)} {a1 a2 a3 : Option Addr} {n1 c1 n2 c2 n3 c3 : Nat} {cs : Array Value}
    (hM : (M = none ∧ o = none) ∨ ∃ q, o = some q ∧ M = some (⟨k, s, L, Z, H⟩, q)) (h : KG g w w3) (hr : StR w3 g o) (hgb : g < b) (hb : w.heap.size = b) (hbx : w3.heap[b]? = some (.cells cs 54 (0, 0))) (hk : Kept (fun k => k = b) w3 W6)
    (hL : RowV w3 (.slice a1 n1 c1) (L.map strV)) (hZ : RowK 2 zCells w3 (.slice a2 n2 c2) Z) (hH : RowK 2 hCells w3 (.slice a3 n3 c3) H) (nL : TypedT w3 (.slice a1 n1 c1) 9) (nZ : TypedT w3 (.slice a2 n2 c2) 99) (nH : TypedT w3 (.slice a3 n3 c3) 87) :
    EndR g M ValV (badV k) w (.returned (.agg #[.int .i64 k, strV s, .slice a1 n1 c1, .slice a2 n2 c2, .slice a3 n3 c3])) W6 := by
  have kL := nL.ne hbx (by decide)
  have kZ := nZ.ne hbx (by decide)
  have kH := nH.ne hbx (by decide)
  refine ⟨Kept.trans' h hk (fun i hi e => by omega), _, rfl, ?_⟩
  have hr' := hr.keptS hk (fun i hi e => by omega)
  rcases hM with ⟨rfl, rfl⟩ | ⟨q, rfl, rfl⟩
  · exact ⟨⟨s, _, _, _, _, _, _, _, _, _, rfl⟩, hr'⟩
  · exact ⟨⟨_, _, _, rfl, hL.kept hk kL, hZ.keptS hk kZ, hH.keptS hk kH, nL.keptS hk kL, nZ.keptS hk kZ, nH.keptS hk kH⟩, hr'⟩

/-- What a row's loop has: the row that comes out at last, P, by what is left. -/
def GoR {α : Type} (get : Nat → Bs → Option (List α × Bs)) (P : Option (List α × Bs)) (D : List α) (m : Nat) : Option Bs → Prop
  | some r' => P = (get m r').map (fun p => (D ++ p.1, p.2)) ∧ D.length + r'.length ≤ 100000000
  | none => P = none
theorem GoR.start {α : Type} {get : Nat → Bs → Option (List α × Bs)} {n : Nat} {r : Bs} (h : r.length ≤ 100000000) : GoR get (get n r) [] n (some r) := by
  refine ⟨?_, by simpa using h⟩
  cases get n r with
  | none => rfl
  | some p => simp
theorem GoR.next {α : Type} {get : Nat → Bs → Option (List α × Bs)} {P : Option (List α × Bs)} {D : List α} {m : Nat} {r' q : Bs} {x : α} (h : GoR get P D (m + 1) (some r')) (h2 : get (m + 1) r' = (get m q).map (fun p => (x :: p.1, p.2))) (hl : q.length < r'.length) : GoR get P (D ++ [x]) m (some q) := by
  obtain ⟨h1, h3⟩ := h
  refine ⟨?_, by rw [List.length_append, List.length_singleton]; omega⟩
  rw [h1, h2]
  cases get m q with
  | none => rfl
  | some p => simp
theorem GoR.stop {α : Type} {get : Nat → Bs → Option (List α × Bs)} {P : Option (List α × Bs)} {D D' : List α} {m m' : Nat} {r' : Bs} (h : GoR get P D m (some r')) (h2 : get m r' = none) : GoR get P D' m' none := by
  obtain ⟨h1, _⟩ := h
  rw [h2] at h1
  exact h1
theorem getV_L (o : Option Bs) {k : Int} (hk : k = 2 ∨ k = 3) : o.bind (getV k) = ((o.bind (numB 4)).bind fun p => getL p.1 p.2).map fun p => (⟨k, [], p.1, [], []⟩, p.2) := by
  cases o with
  | none => rfl
  | some l =>
    rw [Option.bind_some, Option.bind_some]
    unfold getV
    rcases hk with rfl | rfl <;> rw [if_neg (by decide)] <;> cases numB 4 l with
    | none => rfl
    | some p => obtain ⟨n, r⟩ := p; simp only [Option.bind_some]; rw [if_pos (by decide)]; cases getL n r <;> rfl
theorem getV_Z (o : Option Bs) : o.bind (getV 4) = ((o.bind (numB 4)).bind fun p => getZ p.1 p.2).map fun p => (⟨4, [], [], p.1, []⟩, p.2) := by
  cases o with
  | none => rfl
  | some l =>
    rw [Option.bind_some, Option.bind_some]
    unfold getV
    rw [if_neg (by decide)]
    cases numB 4 l with
    | none => rfl
    | some p => obtain ⟨n, r⟩ := p; simp only [Option.bind_some]; rw [if_neg (by decide), if_pos trivial]; cases getZ n r <;> rfl
theorem getV_H (o : Option Bs) : o.bind (getV 5) = ((o.bind (numB 4)).bind fun p => getH p.1 p.2).map fun p => (⟨5, [], [], [], p.1⟩, p.2) := by
  cases o with
  | none => rfl
  | some l =>
    rw [Option.bind_some, Option.bind_some]
    unfold getV
    rw [if_neg (by decide)]
    cases numB 4 l with
    | none => rfl
    | some p => obtain ⟨n, r⟩ := p; simp only [Option.bind_some]; rw [if_neg (by decide), if_neg (by decide), if_pos trivial]; cases getH n r <;> rfl
theorem getV_1 (o : Option Bs) : o.bind (getV 1) = (o.bind txtB).map fun p => (⟨1, p.1, [], [], []⟩, p.2) := by
  cases o with
  | none => rfl
  | some l =>
    rw [Option.bind_some, Option.bind_some]
    unfold getV
    rw [if_pos rfl]
    cases txtB l <;> rfl
theorem getV_0 (o : Option Bs) {k : Int} (h1 : ¬ k = 1) (h2 : ¬ k = 2) (h3 : ¬ k = 3) (h4 : ¬ k = 4) (h5 : ¬ k = 5) : o.bind (getV k) = (o.bind (numB 4)).bind fun p => if p.1 = 0 then some (⟨k, [], [], [], []⟩, p.2) else none := by
  cases o with
  | none => rfl
  | some l =>
    rw [Option.bind_some, Option.bind_some]
    unfold getV
    rw [if_neg h1]
    cases numB 4 l with
    | none => rfl
    | some p => obtain ⟨n, r⟩ := p; simp only [Option.bind_some]; rw [if_neg (by simp [h2, h3]), if_neg h4, if_neg h5]
/-- The world at the head of a row's loop. -/
structure RowR {α : Type} (k : Nat) (T : TypeId) (f : α → List Value) (box : Value → Array Value) (w : World) (g b : Nat) (D : List α) (o : Option Bs) (vX : Value) (wr : World) : Prop where
  rd : StR wr g o
  kg : KG g w wr
  b4 : wr.heap[b]? = some (.cells #[.int .i64 0, .string ⟨#[]⟩, .slice none 0 0, .slice none 0 0, .slice none 0 0] 54 (0, 0))
  b5 : wr.heap[b + 1]? = some (.cells (box vX) 54 (0, 0))
  own : OwnK k T f wr (b + 2) vX D
theorem RowR.kept {α : Type} {k : Nat} {T : TypeId} {f : α → List Value} {box : Value → Array Value} {w : World} {g b : Nat} {D : List α} {o : Option Bs} {vX : Value} {wr w' : World} (h : RowR k T f box w g b D o vX wr) (hk : Kept NoBlock wr w') : RowR k T f box w g b D o vX w' :=
  ⟨h.rd.kept hk, h.kg.trans (hk.kg g), hk.heap h.b4 (fun h => h), hk.heap h.b5 (fun h => h), h.own.kept hk⟩
/-- .. behind a call on the reader. -/
theorem RowR.read {α : Type} {k : Nat} {T : TypeId} {f : α → List Value} {box : Value → Array Value} {w : World} {g b : Nat} {D : List α} {o o' : Option Bs} {vX : Value} {wr w' : World} (h : RowR k T f box w g b D o vX wr) (hk : KG g wr w') (hr : StR w' g o') (hgb : g < b) : RowR k T f box w g b D o' vX w' :=
  ⟨hr, h.kg.trans hk, hk.heap h.b4 (by omega), hk.heap h.b5 (by omega), h.own.keptS hk (fun i hi _ e => by omega)⟩
/-- .. behind the row's growing and the box's store. -/
theorem RowR.grow {α : Type} {k : Nat} {T : TypeId} {f : α → List Value} {box : Value → Array Value} {w : World} {g b : Nat} {D D' : List α} {o : Option Bs} {vX vX' : Value} {wr w' : World} (h : RowR k T f box w g b D o vX wr) (hgb : g < b) (hb : w.heap.size = b)
    (hg : wr.grownBy w' vX.ownBlock) (hown : OwnK k T f w' (b + 2) vX' D') (ci : Nat) (hbox : (box vX).setIfInBounds ci vX' = box vX') : RowR k T f box w g b D' o vX' (w'.setCell ⟨b + 1, ci, none⟩ vX') := by
  have hlt := h.own.lt
  have hk := grownS (B := b + 2) hg (fun j e => (hlt j e).1)
  have hk2 : Kept (fun j => j = b + 1) w' (w'.setCell ⟨b + 1, ci, none⟩ vX') := Kept.setCell (S := fun j => j = b + 1) (p := ⟨b + 1, ci, none⟩) (Kept.refl _ w') (fun _ => rfl) _
  have h5 := hk.heap h.b5 (by omega)
  refine ⟨(h.rd.keptS hk (fun i hi e => by omega)).keptS hk2 (fun i hi e => by omega), Kept.trans' (h.kg.ofS hk (by omega)) hk2 (fun i hi e => by omega), hk2.heap (hk.heap h.b4 (by omega)) (by omega), ?_, hown.keptS hk2 (fun i hi _ e => by omega)⟩
  rw [heap_setCell_same h5 ci vX', hbox]
theorem RowR.cell {α : Type} {k : Nat} {T : TypeId} {f : α → List Value} {box : Value → Array Value} {w : World} {g b : Nat} {D : List α} {o : Option Bs} {vX : Value} {wr : World} (h : RowR k T f box w g b D o vX wr) {ci : Nat} (hci : (box vX)[ci]? = some vX) : wr.cell? ⟨b + 1, ci, none⟩ = some vX := cellB h.b5 hci
/-- Is the reader bad? -/
theorem StR.flag {w : World} {g : Nat} {o : Option Bs} (h : StR w g o) : w.cell? ⟨g, 1, none⟩ = some (.bool o.isNone) := by
  cases o with
  | none => obtain ⟨v, hg⟩ := h; exact (blk2' hg).2.1
  | some l => obtain ⟨v, hg, _⟩ := h; exact (blk2' hg).2.1

set_option maxRecDepth 100000 in
set_option maxHeartbeats 3200000 in
theorem rvalueR (g : Nat) (o : Option Bs) (k : Int) (w : World) (h : StR w g o) (hl : ∀ l, o = some l → l.length ≤ 100000000) :
    Calls Tryd.prog 43 #[.pointer (some ⟨g, 0, none⟩), .int .i64 k] w (EndR g (o.bind (getV k)) ValV (badV k) w) := by
  have HR := Lib.hid h
  have hlt := h.lt
  have HLO := Lib.hid (fun l h => Nat.le_trans (hl l h) (by decide : 100000000 ≤ 1000000000))
  have HL1 := Lib.hid hl
  generalize hM : o.bind (getV k) = M
  have HM := Lib.hid hM
  have HK4 := Lib.hid (Kept.allocd w (.cells #[.int .i64 0, .string ⟨#[]⟩, .slice none 0 0, .slice none 0 0, .slice none 0 0] 54))
  have HG4 := Lib.hid (heap_alloc_new w (.cells #[.int .i64 0, .string ⟨#[]⟩, .slice none 0 0, .slice none 0 0, .slice none 0 0] 54))
  have HK5 := Lib.hid (HK4.out.alloc (.cells #[.int .i64 k, .string ⟨#[]⟩, .slice none 0 0, .slice none 0 0, .slice none 0 0] 54))
  have HG45 := Lib.hid ((Kept.allocd (w.alloc (.cells #[.int .i64 0, .string ⟨#[]⟩, .slice none 0 0, .slice none 0 0, .slice none 0 0] 54)) (.cells #[.int .i64 k, .string ⟨#[]⟩, .slice none 0 0, .slice none 0 0, .slice none 0 0] 54)).heap HG4.out (fun h => h))
  have HG5 := Lib.hid (heap_alloc_new (w.alloc (.cells #[.int .i64 0, .string ⟨#[]⟩, .slice none 0 0, .slice none 0 0, .slice none 0 0] 54)) (.cells #[.int .i64 k, .string ⟨#[]⟩, .slice none 0 0, .slice none 0 0, .slice none 0 0] 54))
  rw [World.size_alloc] at HG5
  clear h hM HK4 HG4 hl
  by_cases h1 : k = 1
  · subst h1
    have hm := HM.out
    rw [getV_1] at hm
    have HMM := Lib.hid hm
    have HT := Lib.hid (fun W h => rtextR g o W h HLO.out)
    clear hm
    go_enter Tryd.func43, Tryd.ntmps43
    go_wp2_with fail
    generalize (w.alloc (.cells #[.int .i64 0, .string ⟨#[]⟩, .slice none 0 0, .slice none 0 0, .slice none 0 0] 54)).alloc (.cells #[.int .i64 1, .string ⟨#[]⟩, .slice none 0 0, .slice none 0 0, .slice none 0 0] 54) = W5 at *
    generalize hb : w.heap.size = b at *
    have HB := Lib.hid hb
    clear hb
    (with_reducible refine (HT.out W5 (HR.out.kept HK5.out)).mono ?_)
    intro e w2 he
    obtain ⟨s, o', rfl, hk, hr, hc⟩ := text_any he
    have HMV : Hid ((M = none ∧ o' = none) ∨ ∃ q, o' = some q ∧ M = some (⟨1, s, [], [], []⟩, q)) := Lib.hid (by
      rcases hc with ⟨h1, h2⟩ | ⟨q, h1, h2⟩
      · exact .inl ⟨by rw [← HMM.out, h1]; rfl, h2⟩
      · exact .inr ⟨q, h1, by rw [← HMM.out, h2]; rfl⟩)
    have HR2 := Lib.hid hr
    have HK2 := Lib.hid ((HK5.out.kg g).trans hk)
    have HG42 := Lib.hid (KG.heap hk HG45.out (by have := HB.out; omega))
    have HG52 := Lib.hid (KG.heap hk HG5.out (by have := HB.out; omega))
    clear hr hk hc he HM HMM
    obtain ⟨d0, d1, d2, d3, d4⟩ := blk5 HG52.out
    obtain ⟨e0, e1, e2, e3, e4⟩ := blk5 HG42.out
    have hz := fun i => frozenB HG52.out i
    have hz4 := fun i => frozenB HG42.out i
    have hg6 := heap_set_ne (p := ⟨b + 1, 1, none⟩) (v := strV s) HG42.out (by simp)
    have hk6 := Kept.setCell (S := fun k => k = b + 1) (p := ⟨b + 1, 1, none⟩) (Kept.refl _ w2) (fun _ => rfl) (strV s)
    have HS5 := Lib.hid (set5 hg6 (.int .i64 1) (strV s) (.slice none 0 0) (.slice none 0 0) (.slice none 0 0))
    have HK6 := Lib.hid hk6
    have HG6 := Lib.hid hg6
    clear hg6 hk6
    unfold strV at HS5 HK6 HG6 ⊢
    go_wp2_with fail
    refine bodyPost_ret (v := .agg #[.int .i64 1, .string ⟨s.toArray⟩, .slice none 0 0, .slice none 0 0, .slice none 0 0]) ((results_cell rfl _ _ _).trans ?_) rfl ?_
    · obtain ⟨f0, f1, f2, f3, f4⟩ := blk5 HS5.out.1
      generalize ((((((w2.setCell ⟨b + 1, 1, none⟩ (.string ⟨s.toArray⟩)).setCell ⟨b, 0, none⟩ (.int .i64 1)).setCell ⟨b, 1, none⟩ (.string ⟨s.toArray⟩)).setCell ⟨b, 2, none⟩ (.slice none 0 0)).setCell ⟨b, 3, none⟩ (.slice none 0 0)).setCell ⟨b, 4, none⟩ (.slice none 0 0)) = W6 at *
      go_simp
    · exact vendR HMV.out (w3 := w2.setCell ⟨b + 1, 1, none⟩ (.string ⟨s.toArray⟩)) (Kept.trans' HK2.out HK6.out (fun i hi e => by have := HB.out; omega)) (HR2.out.keptS HK6.out (fun i hi e => by omega)) hlt HB.out HG6.out HS5.out.2 (RowV.nil _) (RowK.nil _) (RowK.nil _) (TypedT.nil _ _) (TypedT.nil _ _) (TypedT.nil _ _)
  by_cases h2 : k = 2
  · subst h2
    have hm := HM.out
    rw [getV_L o (.inl rfl)] at hm
    obtain ⟨P, hP⟩ : ∃ P, P = (o.bind (numB 4)).bind fun p => getL p.1 p.2 := ⟨_, rfl⟩
    rw [← hP] at hm
    have HMM := Lib.hid hm
    have HP := Lib.hid hP
    have hn4 := fun W h => rnumR g o 4 W h (by decide) HLO.out
    rw [show (((4 : Nat) : Int)) = 4 from rfl] at hn4
    have HT := Lib.hid hn4
    clear hm hP hn4
    go_enter Tryd.func43, Tryd.ntmps43
    go_wp2_with fail
    generalize (w.alloc (.cells #[.int .i64 0, .string ⟨#[]⟩, .slice none 0 0, .slice none 0 0, .slice none 0 0] 54)).alloc (.cells #[.int .i64 2, .string ⟨#[]⟩, .slice none 0 0, .slice none 0 0, .slice none 0 0] 54) = W5 at *
    generalize hb : w.heap.size = b at *
    have HB := Lib.hid hb
    clear hb
    (with_reducible refine (HT.out W5 (HR.out.kept HK5.out)).mono ?_)
    intro e w2 he
    obtain ⟨n, o2, rfl, hn4, hk, hr, hc⟩ := num_any he
    have HRW : Hid (∃ vX, RowR 1 9 sCells (boxL 2) w g b [] o2 vX w2) := Lib.hid ⟨.slice none 0 0, hr, (HK5.out.kg g).trans hk, KG.heap hk HG45.out (by omega), KG.heap hk HG5.out (by omega), OwnK.nil _ _⟩
    have HGO : Hid (GoR getL P [] n o2) := Lib.hid (by
      rcases hc with ⟨h1, rfl, _⟩ | ⟨q, rfl, h2⟩
      · show P = none
        rw [HP.out, h1]; rfl
      · rw [HP.out, h2]
        obtain ⟨l, hl, hn⟩ := numO_len h2
        have h3 := numB_len hn
        have h4 := HL1.out l hl
        exact GoR.start (r := q) (by omega))
    have hn5 : n ≤ 4294967296 := by omega
    clear hr hk hc he HM HG45 HG5 HK5 HP hn4
    go_wp2_with fail
    go_loopw [7] (fun v7 wr => ∃ i : Nat, v7 = .int .u64 i ∧ i ≤ n ∧ ∃ D o' vX, RowR 1 9 sCells (boxL 2) w g b D o' vX wr ∧ GoR getL P D (n - i) o') (fun v7 _ => n - (intOf v7).toNat)
    case atStart => obtain ⟨vX, h⟩ := HRW.out; exact ⟨0, rfl, Nat.zero_le _, _, _, vX, h, HGO.out⟩
    case round =>
      obtain ⟨i, rfl, hi, D, o', vX, hrw, hrest⟩ := hrel
      have HW := Lib.hid hrw
      have HRE := Lib.hid hrest
      have hfl := hrw.rd.flag
      clear hrw hrest HRW HGO
      by_cases hgo : i < n ∧ o' ≠ none
      · obtain ⟨hin, hon⟩ := hgo
        obtain ⟨r', rfl⟩ : ∃ r', o' = some r' := by cases o' with | none => exact absurd rfl hon | some r' => exact ⟨r', rfl⟩
        have hfl : wr.cell? ⟨g, 1, none⟩ = some (.bool false) := hfl
        obtain ⟨q, hq⟩ : ∃ q, n - i = q + 1 := ⟨n - i - 1, by omega⟩
        have hr'l : r'.length ≤ 100000000 := by have := HRE.out.2; omega
        have hDl : D.length ≤ 100000000 := by have := HRE.out.2; omega
        have HQ := Lib.hid hq
        clear hq hon
        go_wp2_with fail
        clear hfl
        have hcell := HW.out.cell (ci := 2) rfl
        refine wp_planC (fun W => W.cell? ⟨b + 1, 2, none⟩ = some vX) 7 [.flt 0, .flt 1, .seg [2] 3, .seg [] 4, .seg [] 5, .seg [6] 7] [] (by kernel_rfl) (by kernel_rfl) (fun _ _ _ dst _ h => by cases dst <;> exact h) (fun _ _ h => h) hcell (fun n0 => ?_)
        repeat (refine planC_flt rfl rfl ?_; apply Exists.intro; refine ⟨fun w' hw' => ?_, ?_⟩; (go_simp; first | rfl | exact ⟨rfl, rfl⟩); simp only [Act.put, List.setIfInBounds_toArray, List.set_cons_succ, List.set_cons_zero])
        simp only [wpPlanC, pick, List.filterMap_cons, List.filterMap_nil, List.getElem?_cons_succ, List.getElem?_cons_zero]
        repeat (quiet_step (fail))
        refine wpQuiet_nil ?_
        rintro _ ⟨n1, rfl⟩
        clear hcell
        have HWN := Lib.hid (HW.out.kept ((Kept.refl NoBlock wr).drewN (n0 + n1)))
        have HT2 := Lib.hid (rtextR g (some r') (wr.drewN (n0 + n1)) HWN.out.rd (fun l h => by cases h; omega))
        go_wp2_with fail
        (with_reducible refine HT2.out.mono ?_)
        intro e w3 he
        obtain ⟨s, o3, rfl, hk, hr, hc⟩ := text_any he
        have hk' : KG g wr w3 := (((Kept.refl NoBlock wr).drewN _).kg g).trans hk
        clear hk
        have HW3 := Lib.hid (HW.out.read hk' hr hlt)
        have HRE3 : Hid (GoR getL P (D ++ [s]) (n - (i + 1)) o3) := Lib.hid (by
          have h0 := HRE.out
          rw [HQ.out] at h0
          rw [(show n - (i + 1) = q by have := HQ.out; omega)]
          rcases hc with ⟨h1, rfl⟩ | ⟨q', rfl, h2⟩
          · exact h0.stop (getL_no h1)
          · exact h0.next (getL_step h2) (by have := txtB_len (show txtB r' = _ from h2); omega))
        clear hk' hr hc he HT2 HWN
        unfold strV
        go_wp2_with fail
        refine Halt.mk ⟨.inr (HW3.out.cell (ci := 2) rfl), ?_⟩
        have HA := Lib.hid (Kept.allocd w3 (.cells #[.string ⟨s.toArray⟩] 9))
        have HGA := Lib.hid (heap_alloc_new w3 (.cells #[.string ⟨s.toArray⟩] 9))
        have HWA := Lib.hid (HW3.out.kept HA.out)
        go_wp2_with fail
        generalize w3.alloc (.cells #[.string ⟨s.toArray⟩] 9) = wA at *
        generalize w3.heap.size = gA at *
        refine Halt.mk ⟨.inr (HWA.out.cell (ci := 2) rfl), ?_⟩
        refine wpList_appK rfl _ _ 50 (by rfl) Tryd.underlying50 _ 16 strInfo rfl (by decide) (by decide) (fun _ => rfl) (b + 2) vX D (by rfl) HWA.out.own gA s #[.string ⟨s.toArray⟩] (0, 0) (by rfl) HGA.out rfl (by intro u hu; simp [sCells, strV] at hu; rcases hu with rfl | rfl <;> rfl) (by omega) (by have := lt_of_heap HWA.out.b5; omega) ?_
        intro v' w' hown hgr
        obtain ⟨ap', cap', rfl⟩ := OwnK.form (k := 1) (f := sCells) (fun _ => rfl) (by decide) hown
        rw [List.length_append, List.length_singleton] at hown ⊢
        have HW9 := Lib.hid (RowR.grow HWA.out hlt HB.out hgr hown 2 rfl)
        have hk9 := grownS (B := b + 2) hgr (fun j e => (HWA.out.own.lt j e).1)
        have h59 := hk9.heap HWA.out.b5 (by omega)
        have hc9 : w'.cell? ⟨b + 1, 2, none⟩ = some vX := cellB h59 rfl
        have hz9 := fun i => frozenB h59 i
        clear hown hgr hk9 h59
        go_wp2_with fail
        refine Halt.mk ⟨.inr hc9, ?_⟩
        repeat (quiet_step (fail))
        refine wpQuiet_nil ?_
        rintro _ ⟨n2, rfl⟩
        go_wp2_with fail
        refine Halt.mk ⟨.inl trivial, ?_⟩
        have HW10 := Lib.hid (HW9.out.kept ((Kept.refl NoBlock _).drewN n2))
        clear hc9 hz9
        go_wp2_with fail
        go_roundw
        case rel => exact ⟨i + 1, by go_num, by omega, _, _, _, HW10.out, HRE3.out⟩
        case measure => simp [intOf]; omega
      · have HMV : Hid ((M = none ∧ o' = none) ∨ ∃ q, o' = some q ∧ M = some (⟨2, [], D, [], []⟩, q)) := Lib.hid (by
          cases o' with
          | none => exact .inl ⟨by rw [← HMM.out, show P = none from HRE.out]; rfl, rfl⟩
          | some r' =>
            have hin : n - i = 0 := by
              have := hi
              by_cases h : i < n
              · exact absurd ⟨h, by simp⟩ hgo
              · omega
            have h0 := HRE.out.1
            rw [hin] at h0
            refine .inr ⟨r', rfl, ?_⟩
            rw [← HMM.out, h0]
            show some _ = some _
            simp)
        have hgo2 : ¬ i < n ∨ o'.isNone = true := by
          cases o' with
          | none => exact .inr rfl
          | some r' => exact .inl (fun h => hgo ⟨h, by simp⟩)
        have hrow := OwnK.row (k := 1) (f := sCells) (fun _ => rfl) (by decide) HW.out.own
        obtain ⟨apX, capX, rfl⟩ := OwnK.form (k := 1) (f := sCells) (fun _ => rfl) (by decide) HW.out.own
        have HROW := Lib.hid (OwnK.texts HW.out.own)
        obtain ⟨d0, d1, d2, d3, d4⟩ := blk5 HW.out.b5
        obtain ⟨e0, e1, e2, e3, e4⟩ := blk5 HW.out.b4
        have hz4 := fun i => frozenB HW.out.b4 i
        have HS5 := Lib.hid (set5 HW.out.b4 (.int .i64 2) (.string ⟨#[]⟩) (.slice apX D.length capX) (.slice none 0 0) (.slice none 0 0))
        have HNB := Lib.hid (OwnK.typed HW.out.own)
        clear hrow hgo
        by_cases hin : i < n
        · have hbd : o'.isNone = true := hgo2.resolve_left (fun h => h hin)
          rw [hbd] at hfl
          clear hgo2 hbd
          go_wp2_with fail
          refine bodyPost_ret (v := .agg #[.int .i64 2, .string ⟨#[]⟩, .slice apX D.length capX, .slice none 0 0, .slice none 0 0]) ((results_cell rfl _ _ _).trans ?_) rfl ?_
          · obtain ⟨f0, f1, f2, f3, f4⟩ := blk5 HS5.out.1
            generalize (((((wr.setCell ⟨b, 0, none⟩ (.int .i64 2)).setCell ⟨b, 1, none⟩ (.string ⟨#[]⟩)).setCell ⟨b, 2, none⟩ (.slice apX D.length capX)).setCell ⟨b, 3, none⟩ (.slice none 0 0)).setCell ⟨b, 4, none⟩ (.slice none 0 0)) = W6 at *
            go_simp
          · exact vendR (s := []) HMV.out (w3 := wr) HW.out.kg HW.out.rd hlt HB.out HW.out.b4 HS5.out.2 HROW.out (RowK.nil _) (RowK.nil _) HNB.out (TypedT.nil _ _) (TypedT.nil _ _)
        · clear hgo2 hfl
          go_wp2_with fail
          refine bodyPost_ret (v := .agg #[.int .i64 2, .string ⟨#[]⟩, .slice apX D.length capX, .slice none 0 0, .slice none 0 0]) ((results_cell rfl _ _ _).trans ?_) rfl ?_
          · obtain ⟨f0, f1, f2, f3, f4⟩ := blk5 HS5.out.1
            generalize (((((wr.setCell ⟨b, 0, none⟩ (.int .i64 2)).setCell ⟨b, 1, none⟩ (.string ⟨#[]⟩)).setCell ⟨b, 2, none⟩ (.slice apX D.length capX)).setCell ⟨b, 3, none⟩ (.slice none 0 0)).setCell ⟨b, 4, none⟩ (.slice none 0 0)) = W6 at *
            go_simp
          · exact vendR (s := []) HMV.out (w3 := wr) HW.out.kg HW.out.rd hlt HB.out HW.out.b4 HS5.out.2 HROW.out (RowK.nil _) (RowK.nil _) HNB.out (TypedT.nil _ _) (TypedT.nil _ _)
  by_cases h3 : k = 3
  · subst h3
    have hm := HM.out
    rw [getV_L o (.inr rfl)] at hm
    obtain ⟨P, hP⟩ : ∃ P, P = (o.bind (numB 4)).bind fun p => getL p.1 p.2 := ⟨_, rfl⟩
    rw [← hP] at hm
    have HMM := Lib.hid hm
    have HP := Lib.hid hP
    have hn4 := fun W h => rnumR g o 4 W h (by decide) HLO.out
    rw [show (((4 : Nat) : Int)) = 4 from rfl] at hn4
    have HT := Lib.hid hn4
    clear hm hP hn4
    go_enter Tryd.func43, Tryd.ntmps43
    go_wp2_with fail
    generalize (w.alloc (.cells #[.int .i64 0, .string ⟨#[]⟩, .slice none 0 0, .slice none 0 0, .slice none 0 0] 54)).alloc (.cells #[.int .i64 3, .string ⟨#[]⟩, .slice none 0 0, .slice none 0 0, .slice none 0 0] 54) = W5 at *
    generalize hb : w.heap.size = b at *
    have HB := Lib.hid hb
    clear hb
    (with_reducible refine (HT.out W5 (HR.out.kept HK5.out)).mono ?_)
    intro e w2 he
    obtain ⟨n, o2, rfl, hn4, hk, hr, hc⟩ := num_any he
    have HRW : Hid (∃ vX, RowR 1 9 sCells (boxL 3) w g b [] o2 vX w2) := Lib.hid ⟨.slice none 0 0, hr, (HK5.out.kg g).trans hk, KG.heap hk HG45.out (by omega), KG.heap hk HG5.out (by omega), OwnK.nil _ _⟩
    have HGO : Hid (GoR getL P [] n o2) := Lib.hid (by
      rcases hc with ⟨h1, rfl, _⟩ | ⟨q, rfl, h2⟩
      · show P = none
        rw [HP.out, h1]; rfl
      · rw [HP.out, h2]
        obtain ⟨l, hl, hn⟩ := numO_len h2
        have h3 := numB_len hn
        have h4 := HL1.out l hl
        exact GoR.start (r := q) (by omega))
    have hn5 : n ≤ 4294967296 := by omega
    clear hr hk hc he HM HG45 HG5 HK5 HP hn4
    go_wp2_with fail
    go_loopw [7] (fun v7 wr => ∃ i : Nat, v7 = .int .u64 i ∧ i ≤ n ∧ ∃ D o' vX, RowR 1 9 sCells (boxL 3) w g b D o' vX wr ∧ GoR getL P D (n - i) o') (fun v7 _ => n - (intOf v7).toNat)
    case atStart => obtain ⟨vX, h⟩ := HRW.out; exact ⟨0, rfl, Nat.zero_le _, _, _, vX, h, HGO.out⟩
    case round =>
      obtain ⟨i, rfl, hi, D, o', vX, hrw, hrest⟩ := hrel
      have HW := Lib.hid hrw
      have HRE := Lib.hid hrest
      have hfl := hrw.rd.flag
      clear hrw hrest HRW HGO
      by_cases hgo : i < n ∧ o' ≠ none
      · obtain ⟨hin, hon⟩ := hgo
        obtain ⟨r', rfl⟩ : ∃ r', o' = some r' := by cases o' with | none => exact absurd rfl hon | some r' => exact ⟨r', rfl⟩
        have hfl : wr.cell? ⟨g, 1, none⟩ = some (.bool false) := hfl
        obtain ⟨q, hq⟩ : ∃ q, n - i = q + 1 := ⟨n - i - 1, by omega⟩
        have hr'l : r'.length ≤ 100000000 := by have := HRE.out.2; omega
        have hDl : D.length ≤ 100000000 := by have := HRE.out.2; omega
        have HQ := Lib.hid hq
        clear hq hon
        go_wp2_with fail
        clear hfl
        have hcell := HW.out.cell (ci := 2) rfl
        refine wp_planC (fun W => W.cell? ⟨b + 1, 2, none⟩ = some vX) 7 [.flt 0, .flt 1, .seg [2] 3, .seg [] 4, .seg [] 5, .seg [6] 7] [] (by kernel_rfl) (by kernel_rfl) (fun _ _ _ dst _ h => by cases dst <;> exact h) (fun _ _ h => h) hcell (fun n0 => ?_)
        repeat (refine planC_flt rfl rfl ?_; apply Exists.intro; refine ⟨fun w' hw' => ?_, ?_⟩; (go_simp; first | rfl | exact ⟨rfl, rfl⟩); simp only [Act.put, List.setIfInBounds_toArray, List.set_cons_succ, List.set_cons_zero])
        simp only [wpPlanC, pick, List.filterMap_cons, List.filterMap_nil, List.getElem?_cons_succ, List.getElem?_cons_zero]
        repeat (quiet_step (fail))
        refine wpQuiet_nil ?_
        rintro _ ⟨n1, rfl⟩
        clear hcell
        have HWN := Lib.hid (HW.out.kept ((Kept.refl NoBlock wr).drewN (n0 + n1)))
        have HT2 := Lib.hid (rtextR g (some r') (wr.drewN (n0 + n1)) HWN.out.rd (fun l h => by cases h; omega))
        go_wp2_with fail
        (with_reducible refine HT2.out.mono ?_)
        intro e w3 he
        obtain ⟨s, o3, rfl, hk, hr, hc⟩ := text_any he
        have hk' : KG g wr w3 := (((Kept.refl NoBlock wr).drewN _).kg g).trans hk
        clear hk
        have HW3 := Lib.hid (HW.out.read hk' hr hlt)
        have HRE3 : Hid (GoR getL P (D ++ [s]) (n - (i + 1)) o3) := Lib.hid (by
          have h0 := HRE.out
          rw [HQ.out] at h0
          rw [(show n - (i + 1) = q by have := HQ.out; omega)]
          rcases hc with ⟨h1, rfl⟩ | ⟨q', rfl, h2⟩
          · exact h0.stop (getL_no h1)
          · exact h0.next (getL_step h2) (by have := txtB_len (show txtB r' = _ from h2); omega))
        clear hk' hr hc he HT2 HWN
        unfold strV
        go_wp2_with fail
        refine Halt.mk ⟨.inr (HW3.out.cell (ci := 2) rfl), ?_⟩
        have HA := Lib.hid (Kept.allocd w3 (.cells #[.string ⟨s.toArray⟩] 9))
        have HGA := Lib.hid (heap_alloc_new w3 (.cells #[.string ⟨s.toArray⟩] 9))
        have HWA := Lib.hid (HW3.out.kept HA.out)
        go_wp2_with fail
        generalize w3.alloc (.cells #[.string ⟨s.toArray⟩] 9) = wA at *
        generalize w3.heap.size = gA at *
        refine Halt.mk ⟨.inr (HWA.out.cell (ci := 2) rfl), ?_⟩
        refine wpList_appK rfl _ _ 50 (by rfl) Tryd.underlying50 _ 16 strInfo rfl (by decide) (by decide) (fun _ => rfl) (b + 2) vX D (by rfl) HWA.out.own gA s #[.string ⟨s.toArray⟩] (0, 0) (by rfl) HGA.out rfl (by intro u hu; simp [sCells, strV] at hu; rcases hu with rfl | rfl <;> rfl) (by omega) (by have := lt_of_heap HWA.out.b5; omega) ?_
        intro v' w' hown hgr
        obtain ⟨ap', cap', rfl⟩ := OwnK.form (k := 1) (f := sCells) (fun _ => rfl) (by decide) hown
        rw [List.length_append, List.length_singleton] at hown ⊢
        have HW9 := Lib.hid (RowR.grow HWA.out hlt HB.out hgr hown 2 rfl)
        have hk9 := grownS (B := b + 2) hgr (fun j e => (HWA.out.own.lt j e).1)
        have h59 := hk9.heap HWA.out.b5 (by omega)
        have hc9 : w'.cell? ⟨b + 1, 2, none⟩ = some vX := cellB h59 rfl
        have hz9 := fun i => frozenB h59 i
        clear hown hgr hk9 h59
        go_wp2_with fail
        refine Halt.mk ⟨.inr hc9, ?_⟩
        repeat (quiet_step (fail))
        refine wpQuiet_nil ?_
        rintro _ ⟨n2, rfl⟩
        go_wp2_with fail
        refine Halt.mk ⟨.inl trivial, ?_⟩
        have HW10 := Lib.hid (HW9.out.kept ((Kept.refl NoBlock _).drewN n2))
        clear hc9 hz9
        go_wp2_with fail
        go_roundw
        case rel => exact ⟨i + 1, by go_num, by omega, _, _, _, HW10.out, HRE3.out⟩
        case measure => simp [intOf]; omega
      · have HMV : Hid ((M = none ∧ o' = none) ∨ ∃ q, o' = some q ∧ M = some (⟨3, [], D, [], []⟩, q)) := Lib.hid (by
          cases o' with
          | none => exact .inl ⟨by rw [← HMM.out, show P = none from HRE.out]; rfl, rfl⟩
          | some r' =>
            have hin : n - i = 0 := by
              have := hi
              by_cases h : i < n
              · exact absurd ⟨h, by simp⟩ hgo
              · omega
            have h0 := HRE.out.1
            rw [hin] at h0
            refine .inr ⟨r', rfl, ?_⟩
            rw [← HMM.out, h0]
            show some _ = some _
            simp)
        have hgo2 : ¬ i < n ∨ o'.isNone = true := by
          cases o' with
          | none => exact .inr rfl
          | some r' => exact .inl (fun h => hgo ⟨h, by simp⟩)
        have hrow := OwnK.row (k := 1) (f := sCells) (fun _ => rfl) (by decide) HW.out.own
        obtain ⟨apX, capX, rfl⟩ := OwnK.form (k := 1) (f := sCells) (fun _ => rfl) (by decide) HW.out.own
        have HROW := Lib.hid (OwnK.texts HW.out.own)
        obtain ⟨d0, d1, d2, d3, d4⟩ := blk5 HW.out.b5
        obtain ⟨e0, e1, e2, e3, e4⟩ := blk5 HW.out.b4
        have hz4 := fun i => frozenB HW.out.b4 i
        have HS5 := Lib.hid (set5 HW.out.b4 (.int .i64 3) (.string ⟨#[]⟩) (.slice apX D.length capX) (.slice none 0 0) (.slice none 0 0))
        have HNB := Lib.hid (OwnK.typed HW.out.own)
        clear hrow hgo
        by_cases hin : i < n
        · have hbd : o'.isNone = true := hgo2.resolve_left (fun h => h hin)
          rw [hbd] at hfl
          clear hgo2 hbd
          go_wp2_with fail
          refine bodyPost_ret (v := .agg #[.int .i64 3, .string ⟨#[]⟩, .slice apX D.length capX, .slice none 0 0, .slice none 0 0]) ((results_cell rfl _ _ _).trans ?_) rfl ?_
          · obtain ⟨f0, f1, f2, f3, f4⟩ := blk5 HS5.out.1
            generalize (((((wr.setCell ⟨b, 0, none⟩ (.int .i64 3)).setCell ⟨b, 1, none⟩ (.string ⟨#[]⟩)).setCell ⟨b, 2, none⟩ (.slice apX D.length capX)).setCell ⟨b, 3, none⟩ (.slice none 0 0)).setCell ⟨b, 4, none⟩ (.slice none 0 0)) = W6 at *
            go_simp
          · exact vendR (s := []) HMV.out (w3 := wr) HW.out.kg HW.out.rd hlt HB.out HW.out.b4 HS5.out.2 HROW.out (RowK.nil _) (RowK.nil _) HNB.out (TypedT.nil _ _) (TypedT.nil _ _)
        · clear hgo2 hfl
          go_wp2_with fail
          refine bodyPost_ret (v := .agg #[.int .i64 3, .string ⟨#[]⟩, .slice apX D.length capX, .slice none 0 0, .slice none 0 0]) ((results_cell rfl _ _ _).trans ?_) rfl ?_
          · obtain ⟨f0, f1, f2, f3, f4⟩ := blk5 HS5.out.1
            generalize (((((wr.setCell ⟨b, 0, none⟩ (.int .i64 3)).setCell ⟨b, 1, none⟩ (.string ⟨#[]⟩)).setCell ⟨b, 2, none⟩ (.slice apX D.length capX)).setCell ⟨b, 3, none⟩ (.slice none 0 0)).setCell ⟨b, 4, none⟩ (.slice none 0 0)) = W6 at *
            go_simp
          · exact vendR (s := []) HMV.out (w3 := wr) HW.out.kg HW.out.rd hlt HB.out HW.out.b4 HS5.out.2 HROW.out (RowK.nil _) (RowK.nil _) HNB.out (TypedT.nil _ _) (TypedT.nil _ _)
  by_cases h4 : k = 4
  · subst h4
    have hm := HM.out
    rw [getV_Z o] at hm
    obtain ⟨P, hP⟩ : ∃ P, P = (o.bind (numB 4)).bind fun p => getZ p.1 p.2 := ⟨_, rfl⟩
    rw [← hP] at hm
    have HMM := Lib.hid hm
    have HP := Lib.hid hP
    have hn4 := fun W h => rnumR g o 4 W h (by decide) HLO.out
    rw [show (((4 : Nat) : Int)) = 4 from rfl] at hn4
    have HT := Lib.hid hn4
    clear hm hP hn4
    go_enter Tryd.func43, Tryd.ntmps43
    go_wp2_with fail
    generalize (w.alloc (.cells #[.int .i64 0, .string ⟨#[]⟩, .slice none 0 0, .slice none 0 0, .slice none 0 0] 54)).alloc (.cells #[.int .i64 4, .string ⟨#[]⟩, .slice none 0 0, .slice none 0 0, .slice none 0 0] 54) = W5 at *
    generalize hb : w.heap.size = b at *
    have HB := Lib.hid hb
    clear hb
    (with_reducible refine (HT.out W5 (HR.out.kept HK5.out)).mono ?_)
    intro e w2 he
    obtain ⟨n, o2, rfl, hn4, hk, hr, hc⟩ := num_any he
    have HRW : Hid (∃ vX, RowR 2 99 zCells (boxZ 4) w g b [] o2 vX w2) := Lib.hid ⟨.slice none 0 0, hr, (HK5.out.kg g).trans hk, KG.heap hk HG45.out (by omega), KG.heap hk HG5.out (by omega), OwnK.nil _ _⟩
    have HGO : Hid (GoR getZ P [] n o2) := Lib.hid (by
      rcases hc with ⟨h1, rfl, _⟩ | ⟨q, rfl, h2⟩
      · show P = none
        rw [HP.out, h1]; rfl
      · rw [HP.out, h2]
        obtain ⟨l, hl, hn⟩ := numO_len h2
        have h3 := numB_len hn
        have h4 := HL1.out l hl
        exact GoR.start (r := q) (by omega))
    have hn5 : n ≤ 4294967296 := by omega
    clear hr hk hc he HM HG45 HG5 HK5 HP hn4
    go_wp2_with fail
    go_loopw [7] (fun v7 wr => ∃ i : Nat, v7 = .int .u64 i ∧ i ≤ n ∧ ∃ D o' vX, RowR 2 99 zCells (boxZ 4) w g b D o' vX wr ∧ GoR getZ P D (n - i) o') (fun v7 _ => n - (intOf v7).toNat)
    case atStart => obtain ⟨vX, h⟩ := HRW.out; exact ⟨0, rfl, Nat.zero_le _, _, _, vX, h, HGO.out⟩
    case round =>
      obtain ⟨i, rfl, hi, D, o', vX, hrw, hrest⟩ := hrel
      have HW := Lib.hid hrw
      have HRE := Lib.hid hrest
      have hfl := hrw.rd.flag
      clear hrw hrest HRW HGO
      by_cases hgo : i < n ∧ o' ≠ none
      · obtain ⟨hin, hon⟩ := hgo
        obtain ⟨r', rfl⟩ : ∃ r', o' = some r' := by cases o' with | none => exact absurd rfl hon | some r' => exact ⟨r', rfl⟩
        have hfl : wr.cell? ⟨g, 1, none⟩ = some (.bool false) := hfl
        obtain ⟨q, hq⟩ : ∃ q, n - i = q + 1 := ⟨n - i - 1, by omega⟩
        have hr'l : r'.length ≤ 100000000 := by have := HRE.out.2; omega
        have hDl : D.length ≤ 100000000 := by have := HRE.out.2; omega
        have HQ := Lib.hid hq
        clear hq hon
        have HT2 := Lib.hid (rtextR g (some r') wr HW.out.rd (fun l h => by cases h; omega))
        go_wp2_with fail
        clear hfl
        (with_reducible refine HT2.out.mono ?_)
        intro e w3 he
        obtain ⟨s, o3, rfl, hk', hr, hc⟩ := text_any he
        have HW3 := Lib.hid (HW.out.read hk' hr hlt)
        have hol : ∀ l, o3 = some l → l.length ≤ 1000000000 := fun l h => by
          rcases hc with ⟨_, rfl⟩ | ⟨q', rfl, h2⟩
          · cases h
          · cases h
            have := txtB_len (show txtB r' = _ from h2)
            omega
        have HC := Lib.hid hc
        clear hk' hr hc he HT2
        unfold strV
        go_wp2_with fail
        have hcell := HW3.out.cell (ci := 3) rfl
        refine wp_planC (fun W => W.cell? ⟨b + 1, 3, none⟩ = some vX) 10 [.flt 0, .flt 1, .flt 2, .seg [3] 4, .seg [5] 6, .seg [] 7, .seg [] 8, .seg [9] 10] [] (by kernel_rfl) (by kernel_rfl) (fun _ _ _ dst _ h => by cases dst <;> exact h) (fun _ _ h => h) hcell (fun n0 => ?_)
        repeat (refine planC_flt rfl rfl ?_; apply Exists.intro; refine ⟨fun w' hw' => ?_, ?_⟩; (go_simp; first | rfl | exact ⟨rfl, rfl⟩); simp only [Act.put, List.setIfInBounds_toArray, List.set_cons_succ, List.set_cons_zero])
        simp only [wpPlanC, pick, List.filterMap_cons, List.filterMap_nil, List.getElem?_cons_succ, List.getElem?_cons_zero]
        repeat (quiet_step (fail))
        refine wpQuiet_nil ?_
        rintro _ ⟨n1, rfl⟩
        clear hcell
        have HWN := Lib.hid (HW3.out.kept ((Kept.refl NoBlock w3).drewN (n0 + n1)))
        have HT3 := Lib.hid (by have := rnumR g o3 8 (w3.drewN (n0 + n1)) HWN.out.rd (by decide) hol; rw [show (((8 : Nat) : Int)) = 8 from rfl] at this; exact this)
        clear hol
        go_wp2_with fail
        (with_reducible refine HT3.out.mono ?_)
        intro e w4 he
        obtain ⟨y, o4, rfl, hylt, hk, hr, hc2⟩ := num_any he
        have hk' : KG g w3 w4 := (((Kept.refl NoBlock w3).drewN _).kg g).trans hk
        clear hk
        have HW4 := Lib.hid (HW3.out.read hk' hr hlt)
        have HRE3 : Hid (GoR getZ P (D ++ [(s, wrapS y)]) (n - (i + 1)) o4) := Lib.hid (by
          have h0 := HRE.out
          rw [HQ.out] at h0
          rw [(show n - (i + 1) = q by have := HQ.out; omega)]
          rcases HC.out with ⟨hA, rfl⟩ | ⟨q', rfl, h2⟩
          · rcases hc2 with ⟨h1, rfl, _⟩ | ⟨q2, rfl, h3⟩
            · exact h0.stop (getZ_no hA)
            · cases h3
          · have h2 : txtB r' = some (s, q') := h2
            rcases hc2 with ⟨h1, rfl, _⟩ | ⟨q2, rfl, h3⟩
            · exact h0.stop (getZ_no2 h2 h1)
            · have h3 : numB 8 q' = some (y, q2) := h3
              exact h0.next (getZ_step h2 h3) (by have := txtB_len h2; have := numB_len h3; omega))
        have hwr := wrap_i64 y hylt
        clear hylt
        clear hk' hr hc2 he HT3 HWN
        go_wp2_with fail
        refine Halt.mk ⟨.inr (HW4.out.cell (ci := 3) rfl), ?_⟩
        repeat (quiet_step (fail))
        refine wpQuiet_nil ?_
        rintro _ ⟨n3, rfl⟩
        have HW5 := Lib.hid (HW4.out.kept ((Kept.refl NoBlock w4).drewN n3))
        generalize w4.drewN n3 = w5 at *
        clear hwr
        go_wp2_with fail
        refine Halt.mk ⟨.inr (HW5.out.cell (ci := 3) rfl), ?_⟩
        have HA := Lib.hid (Kept.allocd w5 (.cells #[.string ⟨s.toArray⟩, .int .i64 (wrapS y)] 99))
        have HGA := Lib.hid (heap_alloc_new w5 (.cells #[.string ⟨s.toArray⟩, .int .i64 (wrapS y)] 99))
        have HWA := Lib.hid (HW5.out.kept HA.out)
        go_wp2_with fail
        generalize w5.alloc (.cells #[.string ⟨s.toArray⟩, .int .i64 (wrapS y)] 99) = wA at *
        generalize w5.heap.size = gA at *
        refine Halt.mk ⟨.inr (HWA.out.cell (ci := 3) rfl), ?_⟩
        refine wpList_appK rfl _ _ 51 (by rfl) Tryd.underlying51 _ 24 scoInfo rfl (by decide) (by decide) (fun _ => rfl) (b + 2) vX D (by rfl) HWA.out.own gA (s, wrapS y) #[.string ⟨s.toArray⟩, .int .i64 (wrapS y)] (0, 0) (by rfl) HGA.out rfl (by intro u hu; simp [zCells, strV] at hu; rcases hu with rfl | rfl <;> rfl) (by omega) (by have := lt_of_heap HWA.out.b5; omega) ?_
        intro v' w' hown hgr
        obtain ⟨ap', cap', rfl⟩ := OwnK.form (k := 2) (f := zCells) (fun _ => rfl) (by decide) hown
        rw [List.length_append, List.length_singleton] at hown ⊢
        have HW9 := Lib.hid (RowR.grow HWA.out hlt HB.out hgr hown 3 rfl)
        have hk9 := grownS (B := b + 2) hgr (fun j e => (HWA.out.own.lt j e).1)
        have h59 := hk9.heap HWA.out.b5 (by omega)
        have hc9 : w'.cell? ⟨b + 1, 3, none⟩ = some vX := cellB h59 rfl
        have hz9 := fun i => frozenB h59 i
        clear hown hgr hk9 h59
        go_wp2_with fail
        refine Halt.mk ⟨.inr hc9, ?_⟩
        repeat (quiet_step (fail))
        refine wpQuiet_nil ?_
        rintro _ ⟨n2, rfl⟩
        go_wp2_with fail
        refine Halt.mk ⟨.inl trivial, ?_⟩
        have HW10 := Lib.hid (HW9.out.kept ((Kept.refl NoBlock _).drewN n2))
        clear hc9 hz9
        go_wp2_with fail
        go_roundw
        case rel => exact ⟨i + 1, by go_num, by omega, _, _, _, HW10.out, HRE3.out⟩
        case measure => simp [intOf]; omega
      · have HMV : Hid ((M = none ∧ o' = none) ∨ ∃ q, o' = some q ∧ M = some (⟨4, [], [], D, []⟩, q)) := Lib.hid (by
          cases o' with
          | none => exact .inl ⟨by rw [← HMM.out, show P = none from HRE.out]; rfl, rfl⟩
          | some r' =>
            have hin : n - i = 0 := by
              have := hi
              by_cases h : i < n
              · exact absurd ⟨h, by simp⟩ hgo
              · omega
            have h0 := HRE.out.1
            rw [hin] at h0
            refine .inr ⟨r', rfl, ?_⟩
            rw [← HMM.out, h0]
            show some _ = some _
            simp)
        have hgo2 : ¬ i < n ∨ o'.isNone = true := by
          cases o' with
          | none => exact .inr rfl
          | some r' => exact .inl (fun h => hgo ⟨h, by simp⟩)
        have hrow := OwnK.row (k := 2) (f := zCells) (fun _ => rfl) (by decide) HW.out.own
        obtain ⟨apX, capX, rfl⟩ := OwnK.form (k := 2) (f := zCells) (fun _ => rfl) (by decide) HW.out.own
        have HROW := Lib.hid hrow
        obtain ⟨d0, d1, d2, d3, d4⟩ := blk5 HW.out.b5
        obtain ⟨e0, e1, e2, e3, e4⟩ := blk5 HW.out.b4
        have hz4 := fun i => frozenB HW.out.b4 i
        have HS5 := Lib.hid (set5 HW.out.b4 (.int .i64 4) (.string ⟨#[]⟩) (.slice none 0 0) (.slice apX D.length capX) (.slice none 0 0))
        have HNB := Lib.hid (OwnK.typed HW.out.own)
        clear hrow hgo
        by_cases hin : i < n
        · have hbd : o'.isNone = true := hgo2.resolve_left (fun h => h hin)
          rw [hbd] at hfl
          clear hgo2 hbd
          go_wp2_with fail
          refine bodyPost_ret (v := .agg #[.int .i64 4, .string ⟨#[]⟩, .slice none 0 0, .slice apX D.length capX, .slice none 0 0]) ((results_cell rfl _ _ _).trans ?_) rfl ?_
          · obtain ⟨f0, f1, f2, f3, f4⟩ := blk5 HS5.out.1
            generalize (((((wr.setCell ⟨b, 0, none⟩ (.int .i64 4)).setCell ⟨b, 1, none⟩ (.string ⟨#[]⟩)).setCell ⟨b, 2, none⟩ (.slice none 0 0)).setCell ⟨b, 3, none⟩ (.slice apX D.length capX)).setCell ⟨b, 4, none⟩ (.slice none 0 0)) = W6 at *
            go_simp
          · exact vendR (s := []) HMV.out (w3 := wr) HW.out.kg HW.out.rd hlt HB.out HW.out.b4 HS5.out.2 (RowV.nil _) HROW.out (RowK.nil _) (TypedT.nil _ _) HNB.out (TypedT.nil _ _)
        · clear hgo2 hfl
          go_wp2_with fail
          refine bodyPost_ret (v := .agg #[.int .i64 4, .string ⟨#[]⟩, .slice none 0 0, .slice apX D.length capX, .slice none 0 0]) ((results_cell rfl _ _ _).trans ?_) rfl ?_
          · obtain ⟨f0, f1, f2, f3, f4⟩ := blk5 HS5.out.1
            generalize (((((wr.setCell ⟨b, 0, none⟩ (.int .i64 4)).setCell ⟨b, 1, none⟩ (.string ⟨#[]⟩)).setCell ⟨b, 2, none⟩ (.slice none 0 0)).setCell ⟨b, 3, none⟩ (.slice apX D.length capX)).setCell ⟨b, 4, none⟩ (.slice none 0 0)) = W6 at *
            go_simp
          · exact vendR (s := []) HMV.out (w3 := wr) HW.out.kg HW.out.rd hlt HB.out HW.out.b4 HS5.out.2 (RowV.nil _) HROW.out (RowK.nil _) (TypedT.nil _ _) HNB.out (TypedT.nil _ _)
  by_cases h5 : k = 5
  · subst h5
    have hm := HM.out
    rw [getV_H o] at hm
    obtain ⟨P, hP⟩ : ∃ P, P = (o.bind (numB 4)).bind fun p => getH p.1 p.2 := ⟨_, rfl⟩
    rw [← hP] at hm
    have HMM := Lib.hid hm
    have HP := Lib.hid hP
    have hn4 := fun W h => rnumR g o 4 W h (by decide) HLO.out
    rw [show (((4 : Nat) : Int)) = 4 from rfl] at hn4
    have HT := Lib.hid hn4
    clear hm hP hn4
    go_enter Tryd.func43, Tryd.ntmps43
    go_wp2_with fail
    generalize (w.alloc (.cells #[.int .i64 0, .string ⟨#[]⟩, .slice none 0 0, .slice none 0 0, .slice none 0 0] 54)).alloc (.cells #[.int .i64 5, .string ⟨#[]⟩, .slice none 0 0, .slice none 0 0, .slice none 0 0] 54) = W5 at *
    generalize hb : w.heap.size = b at *
    have HB := Lib.hid hb
    clear hb
    (with_reducible refine (HT.out W5 (HR.out.kept HK5.out)).mono ?_)
    intro e w2 he
    obtain ⟨n, o2, rfl, hn4, hk, hr, hc⟩ := num_any he
    have HRW : Hid (∃ vX, RowR 2 87 hCells (boxH 5) w g b [] o2 vX w2) := Lib.hid ⟨.slice none 0 0, hr, (HK5.out.kg g).trans hk, KG.heap hk HG45.out (by omega), KG.heap hk HG5.out (by omega), OwnK.nil _ _⟩
    have HGO : Hid (GoR getH P [] n o2) := Lib.hid (by
      rcases hc with ⟨h1, rfl, _⟩ | ⟨q, rfl, h2⟩
      · show P = none
        rw [HP.out, h1]; rfl
      · rw [HP.out, h2]
        obtain ⟨l, hl, hn⟩ := numO_len h2
        have h3 := numB_len hn
        have h4 := HL1.out l hl
        exact GoR.start (r := q) (by omega))
    have hn5 : n ≤ 4294967296 := by omega
    clear hr hk hc he HM HG45 HG5 HK5 HP hn4
    go_wp2_with fail
    go_loopw [7] (fun v7 wr => ∃ i : Nat, v7 = .int .u64 i ∧ i ≤ n ∧ ∃ D o' vX, RowR 2 87 hCells (boxH 5) w g b D o' vX wr ∧ GoR getH P D (n - i) o') (fun v7 _ => n - (intOf v7).toNat)
    case atStart => obtain ⟨vX, h⟩ := HRW.out; exact ⟨0, rfl, Nat.zero_le _, _, _, vX, h, HGO.out⟩
    case round =>
      obtain ⟨i, rfl, hi, D, o', vX, hrw, hrest⟩ := hrel
      have HW := Lib.hid hrw
      have HRE := Lib.hid hrest
      have hfl := hrw.rd.flag
      clear hrw hrest HRW HGO
      by_cases hgo : i < n ∧ o' ≠ none
      · obtain ⟨hin, hon⟩ := hgo
        obtain ⟨r', rfl⟩ : ∃ r', o' = some r' := by cases o' with | none => exact absurd rfl hon | some r' => exact ⟨r', rfl⟩
        have hfl : wr.cell? ⟨g, 1, none⟩ = some (.bool false) := hfl
        obtain ⟨q, hq⟩ : ∃ q, n - i = q + 1 := ⟨n - i - 1, by omega⟩
        have hr'l : r'.length ≤ 100000000 := by have := HRE.out.2; omega
        have hDl : D.length ≤ 100000000 := by have := HRE.out.2; omega
        have HQ := Lib.hid hq
        clear hq hon
        have HT2 := Lib.hid (rtextR g (some r') wr HW.out.rd (fun l h => by cases h; omega))
        go_wp2_with fail
        clear hfl
        (with_reducible refine HT2.out.mono ?_)
        intro e w3 he
        obtain ⟨s, o3, rfl, hk', hr, hc⟩ := text_any he
        have HW3 := Lib.hid (HW.out.read hk' hr hlt)
        have hol : ∀ l, o3 = some l → l.length ≤ 1000000000 := fun l h => by
          rcases hc with ⟨_, rfl⟩ | ⟨q', rfl, h2⟩
          · cases h
          · cases h
            have := txtB_len (show txtB r' = _ from h2)
            omega
        have HC := Lib.hid hc
        clear hk' hr hc he HT2
        unfold strV
        go_wp2_with fail
        have hcell := HW3.out.cell (ci := 4) rfl
        refine wp_planC (fun W => W.cell? ⟨b + 1, 4, none⟩ = some vX) 9 [.flt 0, .flt 1, .flt 2, .seg [3] 4, .seg [] 5, .seg [] 6, .seg [] 7, .seg [8] 9] [] (by kernel_rfl) (by kernel_rfl) (fun _ _ _ dst _ h => by cases dst <;> exact h) (fun _ _ h => h) hcell (fun n0 => ?_)
        repeat (refine planC_flt rfl rfl ?_; apply Exists.intro; refine ⟨fun w' hw' => ?_, ?_⟩; (go_simp; first | rfl | exact ⟨rfl, rfl⟩); simp only [Act.put, List.setIfInBounds_toArray, List.set_cons_succ, List.set_cons_zero])
        simp only [wpPlanC, pick, List.filterMap_cons, List.filterMap_nil, List.getElem?_cons_succ, List.getElem?_cons_zero]
        repeat (quiet_step (fail))
        refine wpQuiet_nil ?_
        rintro _ ⟨n1, rfl⟩
        clear hcell
        have HWN := Lib.hid (HW3.out.kept ((Kept.refl NoBlock w3).drewN (n0 + n1)))
        have HT3 := Lib.hid (rtextR g o3 (w3.drewN (n0 + n1)) HWN.out.rd hol)
        clear hol
        go_wp2_with fail
        (with_reducible refine HT3.out.mono ?_)
        intro e w4 he
        obtain ⟨y, o4, rfl, hk, hr, hc2⟩ := text_any he
        have hk' : KG g w3 w4 := (((Kept.refl NoBlock w3).drewN _).kg g).trans hk
        clear hk
        have HW4 := Lib.hid (HW3.out.read hk' hr hlt)
        have HRE3 : Hid (GoR getH P (D ++ [(s, y)]) (n - (i + 1)) o4) := Lib.hid (by
          have h0 := HRE.out
          rw [HQ.out] at h0
          rw [(show n - (i + 1) = q by have := HQ.out; omega)]
          rcases HC.out with ⟨hA, rfl⟩ | ⟨q', rfl, h2⟩
          · rcases hc2 with ⟨h1, rfl⟩ | ⟨q2, rfl, h3⟩
            · exact h0.stop (getH_no hA)
            · cases h3
          · have h2 : txtB r' = some (s, q') := h2
            rcases hc2 with ⟨h1, rfl⟩ | ⟨q2, rfl, h3⟩
            · exact h0.stop (getH_no2 h2 h1)
            · have h3 : txtB q' = some (y, q2) := h3
              exact h0.next (getH_step h2 h3) (by have := txtB_len h2; have := txtB_len h3; omega))
        clear hk' hr hc2 he HT3 HWN
        unfold strV
        go_wp2_with fail
        refine Halt.mk ⟨.inr (HW4.out.cell (ci := 4) rfl), ?_⟩
        have HW5 := HW4
        go_wp2_with fail
        refine Halt.mk ⟨.inr (HW5.out.cell (ci := 4) rfl), ?_⟩
        have HA := Lib.hid (Kept.allocd w4 (.cells #[.string ⟨s.toArray⟩, .string ⟨y.toArray⟩] 87))
        have HGA := Lib.hid (heap_alloc_new w4 (.cells #[.string ⟨s.toArray⟩, .string ⟨y.toArray⟩] 87))
        have HWA := Lib.hid (HW5.out.kept HA.out)
        go_wp2_with fail
        generalize w4.alloc (.cells #[.string ⟨s.toArray⟩, .string ⟨y.toArray⟩] 87) = wA at *
        generalize w4.heap.size = gA at *
        refine Halt.mk ⟨.inr (HWA.out.cell (ci := 4) rfl), ?_⟩
        refine wpList_appK rfl _ _ 52 (by rfl) Tryd.underlying52 _ 32 fieInfo rfl (by decide) (by decide) (fun _ => rfl) (b + 2) vX D (by rfl) HWA.out.own gA (s, y) #[.string ⟨s.toArray⟩, .string ⟨y.toArray⟩] (0, 0) (by rfl) HGA.out rfl (by intro u hu; simp [hCells, strV] at hu; rcases hu with rfl | rfl <;> rfl) (by omega) (by have := lt_of_heap HWA.out.b5; omega) ?_
        intro v' w' hown hgr
        obtain ⟨ap', cap', rfl⟩ := OwnK.form (k := 2) (f := hCells) (fun _ => rfl) (by decide) hown
        rw [List.length_append, List.length_singleton] at hown ⊢
        have HW9 := Lib.hid (RowR.grow HWA.out hlt HB.out hgr hown 4 rfl)
        have hk9 := grownS (B := b + 2) hgr (fun j e => (HWA.out.own.lt j e).1)
        have h59 := hk9.heap HWA.out.b5 (by omega)
        have hc9 : w'.cell? ⟨b + 1, 4, none⟩ = some vX := cellB h59 rfl
        have hz9 := fun i => frozenB h59 i
        clear hown hgr hk9 h59
        go_wp2_with fail
        refine Halt.mk ⟨.inr hc9, ?_⟩
        repeat (quiet_step (fail))
        refine wpQuiet_nil ?_
        rintro _ ⟨n2, rfl⟩
        go_wp2_with fail
        refine Halt.mk ⟨.inl trivial, ?_⟩
        have HW10 := Lib.hid (HW9.out.kept ((Kept.refl NoBlock _).drewN n2))
        clear hc9 hz9
        go_wp2_with fail
        go_roundw
        case rel => exact ⟨i + 1, by go_num, by omega, _, _, _, HW10.out, HRE3.out⟩
        case measure => simp [intOf]; omega
      · have HMV : Hid ((M = none ∧ o' = none) ∨ ∃ q, o' = some q ∧ M = some (⟨5, [], [], [], D⟩, q)) := Lib.hid (by
          cases o' with
          | none => exact .inl ⟨by rw [← HMM.out, show P = none from HRE.out]; rfl, rfl⟩
          | some r' =>
            have hin : n - i = 0 := by
              have := hi
              by_cases h : i < n
              · exact absurd ⟨h, by simp⟩ hgo
              · omega
            have h0 := HRE.out.1
            rw [hin] at h0
            refine .inr ⟨r', rfl, ?_⟩
            rw [← HMM.out, h0]
            show some _ = some _
            simp)
        have hgo2 : ¬ i < n ∨ o'.isNone = true := by
          cases o' with
          | none => exact .inr rfl
          | some r' => exact .inl (fun h => hgo ⟨h, by simp⟩)
        have hrow := OwnK.row (k := 2) (f := hCells) (fun _ => rfl) (by decide) HW.out.own
        obtain ⟨apX, capX, rfl⟩ := OwnK.form (k := 2) (f := hCells) (fun _ => rfl) (by decide) HW.out.own
        have HROW := Lib.hid hrow
        obtain ⟨d0, d1, d2, d3, d4⟩ := blk5 HW.out.b5
        obtain ⟨e0, e1, e2, e3, e4⟩ := blk5 HW.out.b4
        have hz4 := fun i => frozenB HW.out.b4 i
        have HS5 := Lib.hid (set5 HW.out.b4 (.int .i64 5) (.string ⟨#[]⟩) (.slice none 0 0) (.slice none 0 0) (.slice apX D.length capX))
        have HNB := Lib.hid (OwnK.typed HW.out.own)
        clear hrow hgo
        by_cases hin : i < n
        · have hbd : o'.isNone = true := hgo2.resolve_left (fun h => h hin)
          rw [hbd] at hfl
          clear hgo2 hbd
          go_wp2_with fail
          refine bodyPost_ret (v := .agg #[.int .i64 5, .string ⟨#[]⟩, .slice none 0 0, .slice none 0 0, .slice apX D.length capX]) ((results_cell rfl _ _ _).trans ?_) rfl ?_
          · obtain ⟨f0, f1, f2, f3, f4⟩ := blk5 HS5.out.1
            generalize (((((wr.setCell ⟨b, 0, none⟩ (.int .i64 5)).setCell ⟨b, 1, none⟩ (.string ⟨#[]⟩)).setCell ⟨b, 2, none⟩ (.slice none 0 0)).setCell ⟨b, 3, none⟩ (.slice none 0 0)).setCell ⟨b, 4, none⟩ (.slice apX D.length capX)) = W6 at *
            go_simp
          · exact vendR (s := []) HMV.out (w3 := wr) HW.out.kg HW.out.rd hlt HB.out HW.out.b4 HS5.out.2 (RowV.nil _) (RowK.nil _) HROW.out (TypedT.nil _ _) (TypedT.nil _ _) HNB.out
        · clear hgo2 hfl
          go_wp2_with fail
          refine bodyPost_ret (v := .agg #[.int .i64 5, .string ⟨#[]⟩, .slice none 0 0, .slice none 0 0, .slice apX D.length capX]) ((results_cell rfl _ _ _).trans ?_) rfl ?_
          · obtain ⟨f0, f1, f2, f3, f4⟩ := blk5 HS5.out.1
            generalize (((((wr.setCell ⟨b, 0, none⟩ (.int .i64 5)).setCell ⟨b, 1, none⟩ (.string ⟨#[]⟩)).setCell ⟨b, 2, none⟩ (.slice none 0 0)).setCell ⟨b, 3, none⟩ (.slice none 0 0)).setCell ⟨b, 4, none⟩ (.slice apX D.length capX)) = W6 at *
            go_simp
          · exact vendR (s := []) HMV.out (w3 := wr) HW.out.kg HW.out.rd hlt HB.out HW.out.b4 HS5.out.2 (RowV.nil _) (RowK.nil _) HROW.out (TypedT.nil _ _) (TypedT.nil _ _) HNB.out
  have hm := HM.out
  rw [getV_0 o h1 h2 h3 h4 h5] at hm
  have HMM := Lib.hid hm
  have hn4 := fun W h => rnumR g o 4 W h (by decide) HLO.out
  rw [show (((4 : Nat) : Int)) = 4 from rfl] at hn4
  have HT := Lib.hid hn4
  clear hm hn4
  go_enter Tryd.func43, Tryd.ntmps43
  go_wp2_with fail
  generalize (w.alloc (.cells #[.int .i64 0, .string ⟨#[]⟩, .slice none 0 0, .slice none 0 0, .slice none 0 0] 54)).alloc (.cells #[.int .i64 k, .string ⟨#[]⟩, .slice none 0 0, .slice none 0 0, .slice none 0 0] 54) = W5 at *
  generalize hb : w.heap.size = b at *
  have HB := Lib.hid hb
  clear hb
  (with_reducible refine (HT.out W5 (HR.out.kept HK5.out)).mono ?_)
  intro e w2 he
  obtain ⟨n, o2, rfl, hn4, hk, hr, hc⟩ := num_any he
  have HR2 := Lib.hid hr
  have HK2 := Lib.hid ((HK5.out.kg g).trans hk)
  have HG42 := Lib.hid (KG.heap hk HG45.out (by omega))
  have HG52 := Lib.hid (KG.heap hk HG5.out (by omega))
  have HC := Lib.hid hc
  clear hr hk hc he HM HG45 HG5 HK5
  by_cases hn0 : n = 0
  · subst hn0
    have HMV : Hid ((M = none ∧ o2 = none) ∨ ∃ q, o2 = some q ∧ M = some (⟨k, [], [], [], []⟩, q)) := Lib.hid (by
      rcases HC.out with ⟨h1, h2, _⟩ | ⟨q, h1, h2⟩
      · exact .inl ⟨by rw [← HMM.out, h1]; rfl, h2⟩
      · exact .inr ⟨q, h1, by rw [← HMM.out, h2]; rfl⟩)
    obtain ⟨d0, d1, d2, d3, d4⟩ := blk5 HG52.out
    obtain ⟨e0, e1, e2, e3, e4⟩ := blk5 HG42.out
    have hz4 := fun i => frozenB HG42.out i
    have HS5 := Lib.hid (set5 HG42.out (.int .i64 k) (.string ⟨#[]⟩) (.slice none 0 0) (.slice none 0 0) (.slice none 0 0))
    go_wp2_with fail
    go_loopw [7] (fun v7 wr => v7 = .int .u64 0 ∧ wr = w2) (fun _ _ => 0)
    case atStart => exact ⟨rfl, rfl⟩
    case round =>
      obtain ⟨rfl, rfl⟩ := hrel
      go_wp2_with fail
      refine bodyPost_ret (v := .agg #[.int .i64 k, .string ⟨#[]⟩, .slice none 0 0, .slice none 0 0, .slice none 0 0]) ((results_cell rfl _ _ _).trans ?_) rfl ?_
      · obtain ⟨f0, f1, f2, f3, f4⟩ := blk5 HS5.out.1
        generalize (((((wr.setCell ⟨b, 0, none⟩ (.int .i64 k)).setCell ⟨b, 1, none⟩ (.string ⟨#[]⟩)).setCell ⟨b, 2, none⟩ (.slice none 0 0)).setCell ⟨b, 3, none⟩ (.slice none 0 0)).setCell ⟨b, 4, none⟩ (.slice none 0 0)) = W6 at *
        go_simp
      · exact vendR (s := []) HMV.out (w3 := wr) HK2.out HR2.out hlt HB.out HG42.out HS5.out.2 (RowV.nil _) (RowK.nil _) (RowK.nil _) (TypedT.nil _ _) (TypedT.nil _ _) (TypedT.nil _ _)
  · have hpos : 0 < n := by omega
    obtain ⟨q, rfl, hq⟩ : ∃ q, o2 = some q ∧ o.bind (numB 4) = some (n, q) := by
      rcases HC.out with ⟨_, _, h⟩ | h
      · exact absurd h hn0
      · exact h
    have HMN : Hid (M = none) := Lib.hid (by rw [← HMM.out, hq]; simp [hn0])
    obtain ⟨vR, hgr, _⟩ := HR2.out
    have hfl := HR2.out.flag
    have hfl : w2.cell? ⟨g, 1, none⟩ = some (.bool false) := hfl
    have hzg := fun i => frozenB hgr i
    have hk3 := kg_set (w := w2) g 1 (.bool true)
    have HK3 := Lib.hid (HK2.out.trans hk3)
    have HG43 := Lib.hid (KG.heap hk3 HG42.out (by omega))
    have HG53 := Lib.hid (KG.heap hk3 HG52.out (by omega))
    have HR3 : Hid (StR (w2.setCell ⟨g, 1, none⟩ (.bool true)) g none) := Lib.hid ⟨vR, heap_setCell_same hgr 1 _⟩
    clear hgr hk3 hq HC hn0
    go_wp2_with fail
    go_loopw [7] (fun v7 wr => (v7 = .int .u64 0 ∧ wr = w2) ∨ (v7 = .int .u64 1 ∧ wr = w2.setCell ⟨g, 1, none⟩ (.bool true))) (fun v7 _ => 1 - (intOf v7).toNat)
    case atStart => exact .inl ⟨rfl, rfl⟩
    case round =>
      rcases hrel with ⟨rfl, rfl⟩ | ⟨rfl, rfl⟩
      · go_wp2_with fail
        go_roundw
        case rel => exact .inr ⟨by go_num, trivial⟩
        case measure => simp [intOf]
      · clear hfl hzg
        have hfl := HR3.out.flag
        have hfl : (w2.setCell ⟨g, 1, none⟩ (.bool true)).cell? ⟨g, 1, none⟩ = some (.bool true) := hfl
        generalize w2.setCell ⟨g, 1, none⟩ (.bool true) = w3 at *
        obtain ⟨d0, d1, d2, d3, d4⟩ := blk5 HG53.out
        obtain ⟨e0, e1, e2, e3, e4⟩ := blk5 HG43.out
        have hz4 := fun i => frozenB HG43.out i
        have HS5 := Lib.hid (set5 HG43.out (.int .i64 k) (.string ⟨#[]⟩) (.slice none 0 0) (.slice none 0 0) (.slice none 0 0))
        by_cases hn1 : 1 < n
        · go_wp2_with fail
          refine bodyPost_ret (v := .agg #[.int .i64 k, .string ⟨#[]⟩, .slice none 0 0, .slice none 0 0, .slice none 0 0]) ((results_cell rfl _ _ _).trans ?_) rfl ?_
          · obtain ⟨f0, f1, f2, f3, f4⟩ := blk5 HS5.out.1
            generalize (((((w3.setCell ⟨b, 0, none⟩ (.int .i64 k)).setCell ⟨b, 1, none⟩ (.string ⟨#[]⟩)).setCell ⟨b, 2, none⟩ (.slice none 0 0)).setCell ⟨b, 3, none⟩ (.slice none 0 0)).setCell ⟨b, 4, none⟩ (.slice none 0 0)) = W6 at *
            go_simp
          · exact vendR (s := []) (L := []) (Z := []) (H := []) (.inl ⟨HMN.out, rfl⟩) (w3 := w3) HK3.out HR3.out hlt HB.out HG43.out HS5.out.2 (RowV.nil _) (RowK.nil _) (RowK.nil _) (TypedT.nil _ _) (TypedT.nil _ _) (TypedT.nil _ _)
        · go_wp2_with fail
          refine bodyPost_ret (v := .agg #[.int .i64 k, .string ⟨#[]⟩, .slice none 0 0, .slice none 0 0, .slice none 0 0]) ((results_cell rfl _ _ _).trans ?_) rfl ?_
          · obtain ⟨f0, f1, f2, f3, f4⟩ := blk5 HS5.out.1
            generalize (((((w3.setCell ⟨b, 0, none⟩ (.int .i64 k)).setCell ⟨b, 1, none⟩ (.string ⟨#[]⟩)).setCell ⟨b, 2, none⟩ (.slice none 0 0)).setCell ⟨b, 3, none⟩ (.slice none 0 0)).setCell ⟨b, 4, none⟩ (.slice none 0 0)) = W6 at *
            go_simp
          · exact vendR (s := []) (L := []) (Z := []) (H := []) (.inl ⟨HMN.out, rfl⟩) (w3 := w3) HK3.out HR3.out hlt HB.out HG43.out HS5.out.2 (RowV.nil _) (RowK.nil _) (RowK.nil _) (TypedT.nil _ _) (TypedT.nil _ _) (TypedT.nil _ _)
end Go.Proofs.YtfhlhpknobkplaaDoor
namespace Go.Proofs.YtfhlhpknobkplaaDoor
open Go.RowKit
attribute [local go_sem] fold_part fold_some fold_some' partAt_zero

def farB (n : Int) : Bool := decide (n < -1) || decide (1099511627776 < n)
/-- An entry, as the document reads it. -/
def getER (l : Bs) : Option (Ent × Bs) :=
  (numB 1 l).bind fun p1 => (numB 8 p1.2).bind fun p2 => (txtB p2.2).bind fun p3 => if farB (wrapS p2.1) then none else (getV p1.1 p3.2).map fun p4 => (⟨p3.1, p4.1, wrapS p2.1⟩, p4.2)
def badE (v : Value) : Prop := ∃ (key : Bs) (k : Int) (s : Bs) (a1 : Option Addr) (n1 c1 : Nat) (a2 : Option Addr) (n2 c2 : Nat) (a3 : Option Addr) (n3 c3 : Nat) (t : Int), v = .agg #[strV key, .int .i64 k, strV s, .slice a1 n1 c1, .slice a2 n2 c2, .slice a3 n3 c3, .int .i64 t]
theorem value_any {g : Nat} {k : Int} {o : Option Bs} {w : World} {e : Ending} {w' : World} (h : EndR g (o.bind (getV k)) ValV (badV k) w e w') :
    ∃ (kk : Int) (s : Bs) (a1 : Option Addr) (n1 c1 : Nat) (a2 : Option Addr) (n2 c2 : Nat) (a3 : Option Addr) (n3 c3 : Nat) (o' : Option Bs), e = .returned (.agg #[.int .i64 kk, strV s, .slice a1 n1 c1, .slice a2 n2 c2, .slice a3 n3 c3]) ∧ KG g w w' ∧ StR w' g o' ∧
      ((o.bind (getV k) = none ∧ o' = none) ∨ ∃ (L : List Bs) (Z : List (Bs × Int)) (H : List (Bs × Bs)) (q : Bs), o' = some q ∧ o.bind (getV k) = some (⟨kk, s, L, Z, H⟩, q) ∧ RowV w' (.slice a1 n1 c1) (L.map strV) ∧ RowK 2 zCells w' (.slice a2 n2 c2) Z ∧ RowK 2 hCells w' (.slice a3 n3 c3) H ∧
        TypedT w' (.slice a1 n1 c1) 9 ∧ TypedT w' (.slice a2 n2 c2) 99 ∧ TypedT w' (.slice a3 n3 c3) 87) := by
  obtain ⟨hk, v, rfl, hm⟩ := h
  cases ht : o.bind (getV k) with
  | none =>
    rw [ht] at hm
    obtain ⟨⟨s, a1, n1, c1, a2, n2, c2, a3, n3, c3, rfl⟩, hs⟩ := hm
    exact ⟨k, s, a1, n1, c1, a2, n2, c2, a3, n3, c3, none, rfl, hk, hs, .inl ⟨rfl, rfl⟩⟩
  | some p =>
    obtain ⟨x, q⟩ := p
    rw [ht] at hm
    obtain ⟨⟨vL, vZ, vH, rfl, hL, hZ, hH, nL, nZ, nH⟩, hs⟩ := hm
    obtain ⟨kk, s, L, Z, H⟩ := x
    obtain ⟨apL, capL, rfl, _⟩ := hL.parts
    obtain ⟨apZ, capZ, rfl, _⟩ := hZ.parts
    obtain ⟨apH, capH, rfl, _⟩ := hH.parts
    exact ⟨kk, s, _, _, _, _, _, _, _, _, _, some q, rfl, hk, hs, .inr ⟨L, Z, H, q, rfl, rfl, hL, hZ, hH, nL, nZ, nH⟩⟩

set_option maxRecDepth 100000 in
set_option maxHeartbeats 1600000 in
theorem rentryR (g : Nat) (l : Bs) (w : World) (h : StR w g (some l)) (hl : l.length ≤ 100000000) :
    Calls Tryd.prog 31 #[.pointer (some ⟨g, 0, none⟩)] w (EndR g (getER l) EntR badE w) := by
  have HR := Lib.hid h
  have hlt := h.lt
  generalize hM : getER l = M
  have HM := Lib.hid hM
  have HK4 := Lib.hid (Kept.allocd w (.cells #[.string ⟨#[]⟩, .int .i64 0, .string ⟨#[]⟩, .slice none 0 0, .slice none 0 0, .slice none 0 0, .int .i64 0] 56))
  have HG4 := Lib.hid (heap_alloc_new w (.cells #[.string ⟨#[]⟩, .int .i64 0, .string ⟨#[]⟩, .slice none 0 0, .slice none 0 0, .slice none 0 0, .int .i64 0] 56))
  have ht := fun W h => rnumR g (some l) 1 W h (by decide) (fun l' h => by cases h; omega)
  rw [show (((1 : Nat) : Int)) = 1 from rfl] at ht
  have HT := Lib.hid ht
  clear h hM ht
  go_enter Tryd.func31, Tryd.ntmps31
  go_wp2_with fail
  generalize w.alloc (.cells #[.string ⟨#[]⟩, .int .i64 0, .string ⟨#[]⟩, .slice none 0 0, .slice none 0 0, .slice none 0 0, .int .i64 0] 56) = W4 at *
  generalize hb : w.heap.size = b at *
  have HB := Lib.hid hb
  clear hb
  (with_reducible refine (HT.out W4 (HR.out.kept HK4.out)).mono ?_)
  intro e w2 he
  obtain ⟨y, o1, rfl, hy, hk, hr, hc1⟩ := num_any he
  have hl1 : ∀ l', o1 = some l' → l'.length ≤ 100000000 := fun l' h => by
    rcases hc1 with ⟨_, rfl, _⟩ | ⟨q, rfl, h2⟩
    · cases h
    · cases h
      have := numB_len (show numB 1 l = _ from h2)
      omega
  have HL1 := Lib.hid hl1
  have hy256 : y < 256 := by simpa using hy
  have hyw : IntKind.i64.wrap (y : Int) = (y : Int) := IntWalk.i64_in _ (by omega)
  have HK2 := Lib.hid ((HK4.out.kg g).trans hk)
  have HG2 := Lib.hid (KG.heap hk HG4.out (by omega))
  have HR2 := Lib.hid hr
  have HC1 := Lib.hid hc1
  clear hk hr hc1 hl1 hy he HT
  go_wp2_with fail
  have ht := rnumR g o1 8 w2 HR2.out (by decide) (fun l' h => Nat.le_trans (HL1.out l' h) (by decide))
  rw [show (((8 : Nat) : Int)) = 8 from rfl] at ht
  (with_reducible refine ht.mono ?_)
  intro e w3 he
  obtain ⟨n, o2, rfl, hn, hk, hr, hc2⟩ := num_any he
  have hl2 : ∀ l', o2 = some l' → l'.length ≤ 100000000 := fun l' h => by
    rcases hc2 with ⟨_, rfl, _⟩ | ⟨q, rfl, h2⟩
    · cases h
    · cases h
      obtain ⟨l1, h1, h3⟩ := numO_len h2
      have := numB_len h3
      have := HL1.out l1 h1
      omega
  have HL2 := Lib.hid hl2
  have hwr := wrap_i64 n hn
  have HK3 := Lib.hid (HK2.out.trans hk)
  have HG3 := Lib.hid (KG.heap hk HG2.out (by omega))
  have HR3 := Lib.hid hr
  have HC2 := Lib.hid hc2
  clear hk hr hc2 hl2 hn he ht hyw hy256
  go_wp2_with fail
  (with_reducible refine (rtextR g o2 w3 HR3.out (fun l' h => Nat.le_trans (HL2.out l' h) (by decide))).mono ?_)
  intro e w4 he
  obtain ⟨key, o3, rfl, hk, hr, hc3⟩ := text_any he
  have hl3 : ∀ l', o3 = some l' → l'.length ≤ 100000000 := fun l' h => by
    rcases hc3 with ⟨_, rfl⟩ | ⟨q, rfl, h2⟩
    · cases h
    · cases h
      cases o2 with
      | none => cases h2
      | some l2 =>
        have := txtB_len (show txtB l2 = _ from h2)
        have := HL2.out l2 rfl
        omega
  have HL3 := Lib.hid hl3
  have HK4 := Lib.hid (HK3.out.trans hk)
  have HG4 := Lib.hid (KG.heap hk HG3.out (by omega))
  have HR4 := Lib.hid hr
  have HC3 := Lib.hid hc3
  clear hk hr hc3 hl3 he hwr HK2 HG2 HR2 HK3 HG3 HR3
  unfold strV
  generalize hti : wrapS n = till at *
  have HTI := Lib.hid hti
  clear hti
  obtain ⟨vR, csR, hgr⟩ : ∃ vR f, w4.heap[g]? = some (.cells #[vR, .bool f] 70 (0, 0)) := by
    have := HR4.out
    cases o3 with
    | none => obtain ⟨v, h⟩ := this; exact ⟨v, _, h⟩
    | some l3 => obtain ⟨v, h, _⟩ := this; exact ⟨v, _, h⟩
  obtain ⟨r0, r1, f0, f1⟩ := blk2' hgr
  have HFIN : Hid (∀ (o4 : Option Bs), ((farB till = true ∧ o4 = none) ∨ (farB till = false ∧ o4 = o3)) → ∀ (kk : Int) (s : Bs) (L : List Bs) (Z : List (Bs × Int)) (H : List (Bs × Bs)) (oF : Option Bs), ((o4.bind (getV (y : Int)) = none ∧ oF = none) ∨ ∃ q, oF = some q ∧ o4.bind (getV (y : Int)) = some (⟨kk, s, L, Z, H⟩, q)) →
      (M = none ∧ oF = none) ∨ ∃ q, oF = some q ∧ M = some (⟨key, ⟨kk, s, L, Z, H⟩, till⟩, q)) := Lib.hid (by
    intro o4 h4 kk s L Z H oF hF
    rw [← HM.out]
    unfold getER
    rcases HC1.out with ⟨e1, rfl, _⟩ | ⟨q1, rfl, e1⟩
    · have e1 : numB 1 l = none := e1
      rcases HC2.out with ⟨_, rfl, _⟩ | ⟨q, rfl, h⟩
      · rw [e1, Option.bind_none]
        rcases HC3.out with ⟨_, rfl⟩ | ⟨q, rfl, h⟩
        · rcases h4 with ⟨_, rfl⟩ | ⟨_, rfl⟩ <;> rcases hF with ⟨_, rfl⟩ | ⟨q, rfl, h⟩
          · exact .inl ⟨rfl, rfl⟩
          · cases h
          · exact .inl ⟨rfl, rfl⟩
          · cases h
        · cases h
      · cases h
    · have e1 : numB 1 l = some (y, q1) := e1
      rw [e1, Option.bind_some]
      simp only
      rcases HC2.out with ⟨e2, rfl, _⟩ | ⟨q2, rfl, e2⟩
      · have e2 : numB 8 q1 = none := e2
        rw [e2, Option.bind_none]
        rcases HC3.out with ⟨_, rfl⟩ | ⟨q, rfl, h⟩
        · rcases h4 with ⟨_, rfl⟩ | ⟨_, rfl⟩ <;> rcases hF with ⟨_, rfl⟩ | ⟨q, rfl, h⟩
          · exact .inl ⟨rfl, rfl⟩
          · cases h
          · exact .inl ⟨rfl, rfl⟩
          · cases h
        · cases h
      · have e2 : numB 8 q1 = some (n, q2) := e2
        rw [e2, Option.bind_some]
        simp only
        rcases HC3.out with ⟨e3, rfl⟩ | ⟨q3, rfl, e3⟩
        · have e3 : txtB q2 = none := e3
          rw [e3, Option.bind_none]
          rcases h4 with ⟨_, rfl⟩ | ⟨_, rfl⟩ <;> rcases hF with ⟨_, rfl⟩ | ⟨q, rfl, h⟩
          · exact .inl ⟨rfl, rfl⟩
          · cases h
          · exact .inl ⟨rfl, rfl⟩
          · cases h
        · have e3 : txtB q2 = some (key, q3) := e3
          rw [e3, Option.bind_some]
          simp only
          rw [HTI.out]
          rcases h4 with ⟨hf, rfl⟩ | ⟨hf, rfl⟩
          · rw [hf, if_pos rfl]
            rcases hF with ⟨_, rfl⟩ | ⟨q, rfl, h⟩
            · exact .inl ⟨rfl, rfl⟩
            · cases h
          · rw [hf, if_neg Bool.false_ne_true]
            rcases hF with ⟨h, rfl⟩ | ⟨q, rfl, h⟩
            · have h : getV (y : Int) q3 = none := h
              rw [h]
              exact .inl ⟨rfl, rfl⟩
            · have h : getV (y : Int) q3 = some (⟨kk, s, L, Z, H⟩, q) := h
              rw [h]
              exact .inr ⟨q, rfl, rfl⟩)
  by_cases h1 : till < -1
  · have hfar : farB till = true := by unfold farB; simp [h1]
    have HFAR := Lib.hid hfar
    clear hfar
    have hk5 := kg_set (w := w4) g 1 (.bool true)
    have HKV := Lib.hid (HK4.out.trans hk5)
    have HGV := Lib.hid (KG.heap hk5 HG4.out (by omega))
    have HRV : Hid (StR (w4.setCell ⟨g, 1, none⟩ (.bool true)) g none) := Lib.hid ⟨vR, heap_setCell_same hgr 1 _⟩
    clear hk5 hgr
    go_wp2_with fail
    generalize w4.setCell ⟨g, 1, none⟩ (.bool true) = w5 at *
    clear r0 r1 f0 f1
    (with_reducible refine (rvalueR g none (y : Int) w5 HRV.out (fun l h => by cases h)).mono ?_)
    intro e w6 he
    obtain ⟨kk, s, a1, n1, c1, a2, n2, c2, a3, n3, c3, oF, rfl, hk, hr, hc⟩ := value_any he
    have hk5 := HKV.out.trans hk
    have hg5 := KG.heap hk HGV.out (by omega)
    have HS7 := Lib.hid (set7 hg5 (.string ⟨key.toArray⟩) (.int .i64 kk) (.string ⟨s.toArray⟩) (.slice a1 n1 c1) (.slice a2 n2 c2) (.slice a3 n3 c3) (.int .i64 till))
    have HEND : Hid (∀ W6, Kept (fun k => k = b) w6 W6 → EndR g M EntR badE w (.returned (.agg #[.string ⟨key.toArray⟩, .int .i64 kk, .string ⟨s.toArray⟩, .slice a1 n1 c1, .slice a2 n2 c2, .slice a3 n3 c3, .int .i64 till])) W6) := Lib.hid (by
      intro W6 hks
      refine ⟨Kept.trans' hk5 hks (fun i hi e => by have := HB.out; omega), _, rfl, ?_⟩
      have hr6 := hr.keptS hks (fun i hi e => by omega)
      rcases hc with ⟨h1, h2⟩ | ⟨L, Z, H, q, h1, h2, hL, hZ, hH, nL, nZ, nH⟩
      · rcases HFIN.out none (.inl ⟨HFAR.out, rfl⟩) kk s [] [] [] oF (.inl ⟨h1, h2⟩) with ⟨rfl, hoF⟩ | ⟨q, hq, _⟩
        · rw [hoF] at hr6
          exact ⟨⟨key, kk, s, _, _, _, _, _, _, _, _, _, till, rfl⟩, hr6⟩
        · rw [h2] at hq; cases hq
      · rcases HFIN.out none (.inl ⟨HFAR.out, rfl⟩) kk s L Z H oF (.inr ⟨q, h1, h2⟩) with ⟨_, hoF⟩ | ⟨q', hq, hMq⟩
        · rw [h1] at hoF; cases hoF
        · rw [h1] at hq; cases hq
          rw [h1] at hr6
          subst hMq
          exact ⟨⟨⟨⟨key, ⟨kk, s, L, Z, H⟩, till⟩, .slice a1 n1 c1, .slice a2 n2 c2, .slice a3 n3 c3⟩, rfl, rfl, (SubT.mk (m := ⟨⟨key, ⟨kk, s, L, Z, H⟩, till⟩, .slice a1 n1 c1, .slice a2 n2 c2, .slice a3 n3 c3⟩) ⟨hL, hZ, hH⟩ nL nZ nH).keptB hg5 (by decide) hks⟩, hr6⟩)
    obtain ⟨a0, b1, b2, b3, b4, b5, b6⟩ := blk7 hg5
    have hz := fun i => frozenB hg5 i
    clear hk5 hk hr hc he hg5
    unfold strV
    go_wp2_with fail
    refine bodyPost_ret (v := .agg #[.string ⟨key.toArray⟩, .int .i64 kk, .string ⟨s.toArray⟩, .slice a1 n1 c1, .slice a2 n2 c2, .slice a3 n3 c3, .int .i64 till]) ((results_cell rfl _ _ _).trans ?_) rfl ?_
    · obtain ⟨f0, f1, f2, f3, f4, f5, f6⟩ := blk7 HS7.out.1
      generalize (((((((w6.setCell ⟨b, 0, none⟩ (.string ⟨key.toArray⟩)).setCell ⟨b, 1, none⟩ (.int .i64 kk)).setCell ⟨b, 2, none⟩ (.string ⟨s.toArray⟩)).setCell ⟨b, 3, none⟩ (.slice a1 n1 c1)).setCell ⟨b, 4, none⟩ (.slice a2 n2 c2)).setCell ⟨b, 5, none⟩ (.slice a3 n3 c3)).setCell ⟨b, 6, none⟩ (.int .i64 till)) = W6 at *
      go_simp
    · exact HEND.out _ HS7.out.2
  · by_cases h2 : 1099511627776 < till
    · have hfar : farB till = true := by unfold farB; simp [h2]
      have HFAR := Lib.hid hfar
      clear hfar
      have hk5 := kg_set (w := w4) g 1 (.bool true)
      have HKV := Lib.hid (HK4.out.trans hk5)
      have HGV := Lib.hid (KG.heap hk5 HG4.out (by omega))
      have HRV : Hid (StR (w4.setCell ⟨g, 1, none⟩ (.bool true)) g none) := Lib.hid ⟨vR, heap_setCell_same hgr 1 _⟩
      clear hk5 hgr
      go_wp2_with fail
      generalize w4.setCell ⟨g, 1, none⟩ (.bool true) = w5 at *
      clear r0 r1 f0 f1
      (with_reducible refine (rvalueR g none (y : Int) w5 HRV.out (fun l h => by cases h)).mono ?_)
      intro e w6 he
      obtain ⟨kk, s, a1, n1, c1, a2, n2, c2, a3, n3, c3, oF, rfl, hk, hr, hc⟩ := value_any he
      have hk5 := HKV.out.trans hk
      have hg5 := KG.heap hk HGV.out (by omega)
      have HS7 := Lib.hid (set7 hg5 (.string ⟨key.toArray⟩) (.int .i64 kk) (.string ⟨s.toArray⟩) (.slice a1 n1 c1) (.slice a2 n2 c2) (.slice a3 n3 c3) (.int .i64 till))
      have HEND : Hid (∀ W6, Kept (fun k => k = b) w6 W6 → EndR g M EntR badE w (.returned (.agg #[.string ⟨key.toArray⟩, .int .i64 kk, .string ⟨s.toArray⟩, .slice a1 n1 c1, .slice a2 n2 c2, .slice a3 n3 c3, .int .i64 till])) W6) := Lib.hid (by
        intro W6 hks
        refine ⟨Kept.trans' hk5 hks (fun i hi e => by have := HB.out; omega), _, rfl, ?_⟩
        have hr6 := hr.keptS hks (fun i hi e => by omega)
        rcases hc with ⟨h1, h2⟩ | ⟨L, Z, H, q, h1, h2, hL, hZ, hH, nL, nZ, nH⟩
        · rcases HFIN.out none (.inl ⟨HFAR.out, rfl⟩) kk s [] [] [] oF (.inl ⟨h1, h2⟩) with ⟨rfl, hoF⟩ | ⟨q, hq, _⟩
          · rw [hoF] at hr6
            exact ⟨⟨key, kk, s, _, _, _, _, _, _, _, _, _, till, rfl⟩, hr6⟩
          · rw [h2] at hq; cases hq
        · rcases HFIN.out none (.inl ⟨HFAR.out, rfl⟩) kk s L Z H oF (.inr ⟨q, h1, h2⟩) with ⟨_, hoF⟩ | ⟨q', hq, hMq⟩
          · rw [h1] at hoF; cases hoF
          · rw [h1] at hq; cases hq
            rw [h1] at hr6
            subst hMq
            exact ⟨⟨⟨⟨key, ⟨kk, s, L, Z, H⟩, till⟩, .slice a1 n1 c1, .slice a2 n2 c2, .slice a3 n3 c3⟩, rfl, rfl, (SubT.mk (m := ⟨⟨key, ⟨kk, s, L, Z, H⟩, till⟩, .slice a1 n1 c1, .slice a2 n2 c2, .slice a3 n3 c3⟩) ⟨hL, hZ, hH⟩ nL nZ nH).keptB hg5 (by decide) hks⟩, hr6⟩)
      obtain ⟨a0, b1, b2, b3, b4, b5, b6⟩ := blk7 hg5
      have hz := fun i => frozenB hg5 i
      clear hk5 hk hr hc he hg5
      unfold strV
      go_wp2_with fail
      refine bodyPost_ret (v := .agg #[.string ⟨key.toArray⟩, .int .i64 kk, .string ⟨s.toArray⟩, .slice a1 n1 c1, .slice a2 n2 c2, .slice a3 n3 c3, .int .i64 till]) ((results_cell rfl _ _ _).trans ?_) rfl ?_
      · obtain ⟨f0, f1, f2, f3, f4, f5, f6⟩ := blk7 HS7.out.1
        generalize (((((((w6.setCell ⟨b, 0, none⟩ (.string ⟨key.toArray⟩)).setCell ⟨b, 1, none⟩ (.int .i64 kk)).setCell ⟨b, 2, none⟩ (.string ⟨s.toArray⟩)).setCell ⟨b, 3, none⟩ (.slice a1 n1 c1)).setCell ⟨b, 4, none⟩ (.slice a2 n2 c2)).setCell ⟨b, 5, none⟩ (.slice a3 n3 c3)).setCell ⟨b, 6, none⟩ (.int .i64 till)) = W6 at *
        go_simp
      · exact HEND.out _ HS7.out.2
    · have hfar : farB till = false := by unfold farB; simp; omega
      have HFAR := Lib.hid hfar
      clear hfar hgr r0 r1 f0 f1
      go_wp2_with fail
      (with_reducible refine (rvalueR g o3 (y : Int) w4 HR4.out HL3.out).mono ?_)
      intro e w6 he
      obtain ⟨kk, s, a1, n1, c1, a2, n2, c2, a3, n3, c3, oF, rfl, hk, hr, hc⟩ := value_any he
      have hk5 := HK4.out.trans hk
      have hg5 := KG.heap hk HG4.out (by omega)
      have HS7 := Lib.hid (set7 hg5 (.string ⟨key.toArray⟩) (.int .i64 kk) (.string ⟨s.toArray⟩) (.slice a1 n1 c1) (.slice a2 n2 c2) (.slice a3 n3 c3) (.int .i64 till))
      have HEND : Hid (∀ W6, Kept (fun k => k = b) w6 W6 → EndR g M EntR badE w (.returned (.agg #[.string ⟨key.toArray⟩, .int .i64 kk, .string ⟨s.toArray⟩, .slice a1 n1 c1, .slice a2 n2 c2, .slice a3 n3 c3, .int .i64 till])) W6) := Lib.hid (by
        intro W6 hks
        refine ⟨Kept.trans' hk5 hks (fun i hi e => by have := HB.out; omega), _, rfl, ?_⟩
        have hr6 := hr.keptS hks (fun i hi e => by omega)
        rcases hc with ⟨h1, h2⟩ | ⟨L, Z, H, q, h1, h2, hL, hZ, hH, nL, nZ, nH⟩
        · rcases HFIN.out o3 (.inr ⟨HFAR.out, rfl⟩) kk s [] [] [] oF (.inl ⟨h1, h2⟩) with ⟨rfl, hoF⟩ | ⟨q, hq, _⟩
          · rw [hoF] at hr6
            exact ⟨⟨key, kk, s, _, _, _, _, _, _, _, _, _, till, rfl⟩, hr6⟩
          · rw [h2] at hq; cases hq
        · rcases HFIN.out o3 (.inr ⟨HFAR.out, rfl⟩) kk s L Z H oF (.inr ⟨q, h1, h2⟩) with ⟨_, hoF⟩ | ⟨q', hq, hMq⟩
          · rw [h1] at hoF; cases hoF
          · rw [h1] at hq; cases hq
            rw [h1] at hr6
            subst hMq
            exact ⟨⟨⟨⟨key, ⟨kk, s, L, Z, H⟩, till⟩, .slice a1 n1 c1, .slice a2 n2 c2, .slice a3 n3 c3⟩, rfl, rfl, (SubT.mk (m := ⟨⟨key, ⟨kk, s, L, Z, H⟩, till⟩, .slice a1 n1 c1, .slice a2 n2 c2, .slice a3 n3 c3⟩) ⟨hL, hZ, hH⟩ nL nZ nH).keptB hg5 (by decide) hks⟩, hr6⟩)
      obtain ⟨a0, b1, b2, b3, b4, b5, b6⟩ := blk7 hg5
      have hz := fun i => frozenB hg5 i
      clear hk5 hk hr hc he hg5
      unfold strV
      go_wp2_with fail
      refine bodyPost_ret (v := .agg #[.string ⟨key.toArray⟩, .int .i64 kk, .string ⟨s.toArray⟩, .slice a1 n1 c1, .slice a2 n2 c2, .slice a3 n3 c3, .int .i64 till]) ((results_cell rfl _ _ _).trans ?_) rfl ?_
      · obtain ⟨f0, f1, f2, f3, f4, f5, f6⟩ := blk7 HS7.out.1
        generalize (((((((w6.setCell ⟨b, 0, none⟩ (.string ⟨key.toArray⟩)).setCell ⟨b, 1, none⟩ (.int .i64 kk)).setCell ⟨b, 2, none⟩ (.string ⟨s.toArray⟩)).setCell ⟨b, 3, none⟩ (.slice a1 n1 c1)).setCell ⟨b, 4, none⟩ (.slice a2 n2 c2)).setCell ⟨b, 5, none⟩ (.slice a3 n3 c3)).setCell ⟨b, 6, none⟩ (.int .i64 till)) = W6 at *
        go_simp
      · exact HEND.out _ HS7.out.2
end Go.Proofs.YtfhlhpknobkplaaDoor
namespace Go.Proofs.YtfhlhpknobkplaaDoor
open Go.RowKit

theorem getER_some {l : Bs} {e : Ent} {q : Bs} (h : getER l = some (e, q)) : getE l = some (e, q) := by
  unfold getER at h
  unfold getE
  cases h1 : numB 1 l with
  | none => rw [h1] at h; cases h
  | some p1 =>
    obtain ⟨k, r1⟩ := p1
    rw [h1, Option.bind_some] at h
    simp only at h ⊢
    cases h2 : numB 8 r1 with
    | none => rw [h2] at h; cases h
    | some p2 =>
      obtain ⟨a, r2⟩ := p2
      rw [h2, Option.bind_some] at h
      simp only at h ⊢
      cases h3 : txtB r2 with
      | none => rw [h3] at h; cases h
      | some p3 =>
        obtain ⟨key, r3⟩ := p3
        rw [h3, Option.bind_some] at h
        simp only at h ⊢
        cases hf : farB (wrapS a) with
        | true => rw [hf, if_pos rfl] at h; cases h
        | false =>
          rw [hf, if_neg Bool.false_ne_true] at h
          cases h4 : getV (k : Int) r3 with
          | none => rw [h4] at h; cases h
          | some p4 => obtain ⟨v, q'⟩ := p4; rw [h4] at h; cases h; rfl
theorem getER_none {l : Bs} (h : getER l = none) : getE l = none ∨ ∃ e q, getE l = some (e, q) ∧ entOk e = false := by
  unfold getER at h
  unfold getE
  cases h1 : numB 1 l with
  | none => exact .inl rfl
  | some p1 =>
    obtain ⟨k, r1⟩ := p1
    rw [h1, Option.bind_some] at h
    simp only at h ⊢
    cases h2 : numB 8 r1 with
    | none => exact .inl rfl
    | some p2 =>
      obtain ⟨a, r2⟩ := p2
      rw [h2, Option.bind_some] at h
      simp only at h ⊢
      cases h3 : txtB r2 with
      | none => exact .inl rfl
      | some p3 =>
        obtain ⟨key, r3⟩ := p3
        rw [h3, Option.bind_some] at h
        simp only at h ⊢
        cases h4 : getV (k : Int) r3 with
        | none => exact .inl rfl
        | some p4 =>
          obtain ⟨v, q'⟩ := p4
          refine .inr ⟨_, _, rfl, ?_⟩
          cases hf : farB (wrapS a) with
          | false => rw [hf, if_neg Bool.false_ne_true, h4] at h; cases h
          | true =>
            unfold farB at hf
            unfold entOk
            simp only
            have : decide (-1 ≤ wrapS a ∧ wrapS a ≤ 1099511627776) = false := by
              rw [Bool.or_eq_true, decide_eq_true_eq, decide_eq_true_eq] at hf
              exact decide_eq_false (by omega)
            rw [this, Bool.and_false, Bool.false_and]

/-- Nothing that is read is a store. -/
def Lost (n : Nat) (r : Bs) : Prop := ∀ l q, getEs n r = some (l, q) → ∃ e ∈ l, entOk e = false
/-- What the entries' loop has. -/
def GoS (n : Nat) (r : Bs) (D : List Ent) (m : Nat) : Option Bs → Prop
  | some r' => Rest getEs n r D m r'
  | none => Lost n r
theorem GoS.bad {n : Nat} {r : Bs} {D : List Ent} {m : Nat} {r' : Bs} (h : Rest getEs n r D (m + 1) r') (h2 : getER r' = none) : Lost n r := by
  intro l q hl
  rw [h.1] at hl
  rcases getER_none h2 with h3 | ⟨e, q', h3, he⟩
  · rw [getEs, h3] at hl; cases hl
  · rw [getEs, h3] at hl
    simp only at hl
    cases h4 : getEs m q' with
    | none => rw [h4] at hl; cases hl
    | some p =>
      rw [h4] at hl
      cases hl
      exact ⟨e, by simp, he⟩
theorem GoS.next {n : Nat} {r : Bs} {D : List Ent} {m : Nat} {r' q : Bs} {e : Ent} (h : Rest getEs n r D (m + 1) r') (h2 : getER r' = some (e, q)) : Rest getEs n r (D ++ [e]) m q := by
  have h3 := getER_some h2
  exact h.next (by rw [getEs, h3]; simp only; cases getEs m q <;> rfl) (by have := (getE_len h3).1; have : 1 ≤ (entB e).length := (by unfold entB; rw [List.length_cons]; omega); omega)
theorem enc_not {id : Nat} {off : Int} {l : List Ent} {e : Ent} (he : e ∈ l) (ho : entOk e = false) : ∃ c, encB id off l = .error c := by
  refine ⟨_, show encB id off l = .error (checkE l) from ?_⟩
  unfold encB
  rw [if_pos]
  intro hc
  have := (checkE_ok hc).2 e he
  rw [this] at ho; cases ho
/-- Behind head and sum. -/
def tailB (b : Bs) : Except Int (Nat × Int × List Ent) := match getAll ((b.take (b.length - 4)).drop 9) with
    | none => .error 200
    | some ((id, off, l), _) => match encB id off l with
      | .ok x => if x = b then .ok (id, off, l) else .error 200
      | .error _ => .error 200
theorem tail_lost {b : Bs} (h : ∀ id off l q, getAll ((b.take (b.length - 4)).drop 9) = some ((id, off, l), q) → ∃ c, encB id off l = .error c) : tailB b = .error 200 := by
  unfold tailB
  cases hg : getAll ((b.take (b.length - 4)).drop 9) with
  | none => rfl
  | some p =>
    obtain ⟨⟨id, off, l⟩, q⟩ := p
    obtain ⟨c, hc⟩ := h id off l q hg
    simp only [hc]
theorem tail_rest {b : Bs} {id : Nat} {off : Int} {l : List Ent} {q : Bs} (h : getAll ((b.take (b.length - 4)).drop 9) = some ((id, off, l), q)) (hq : q ≠ []) : tailB b = .error 200 := by
  unfold tailB
  rw [h]
  simp only
  cases hE : encB id off l with
  | error c => rfl
  | ok x =>
    simp only
    split
    · rename_i hx
      subst hx
      obtain ⟨h1, h2, h3, h4⟩ := encB_ok hE
      obtain ⟨g1, g2, g3⟩ := getAll_in h
      have hb : (x.take (x.length - 4)).drop 9 = leB 8 id ++ (leB 8 (wrapU off) ++ (leB 4 l.length ++ l.flatMap entB)) := by
        rw [h4, List.length_append, leB_len, Nat.add_sub_cancel, List.take_left, writtenB_drop]
      have := getAll_app (id := id) (off := off) (l := l) [] h1 g1 h3 g3
      rw [List.append_nil, ← hb, h] at this
      cases this
      exact absurd rfl hq
    · rfl
theorem enc_far {id n : Nat} {l : List Ent} (h : 1125899906842624 < n) (hn : n < 18446744073709551616) : ∃ c, encB id (wrapS n) l = .error c := by
  unfold encB
  by_cases h1 : checkE l = 0
  · rw [if_neg (by simp [h1])]
    by_cases h2 : id = 0
    · rw [if_pos h2]; exact ⟨_, rfl⟩
    · rw [if_neg h2, if_pos (by unfold wrapS; split <;> omega)]
      exact ⟨_, rfl⟩
  · rw [if_pos h1]; exact ⟨_, rfl⟩
theorem dec_tail (b : Bs) : decB b = if b.length < 33 ∨ b.take 9 ≠ signB then .error 200 else if leV (b.drop (b.length - 4)) ≠ sumB (b.take (b.length - 4)) then .error 201 else tailB b := by
  unfold decB tailB
  rfl
end Go.Proofs.YtfhlhpknobkplaaDoor
namespace Go.Proofs.YtfhlhpknobkplaaDoor
open Go.RowKit
attribute [local go_sem] fold_part fold_some fold_some' partAt_zero

theorem rsameB (u v : Value) (a b : Bs) (w : World) (hu : BytesV w u a) (hv : BytesV w v b) :
    Calls Tryd.prog 28 #[u, v] w fun e w' => e = .returned (.bool (decide (a = b))) ∧ w' = w := by
  obtain ⟨ap, cap, rfl, _⟩ := hu.parts
  obtain ⟨aq, caq, rfl, _⟩ := hv.parts
  have c1 := conv_of hu
  have c2 := conv_of hv
  obtain ⟨S, hS⟩ : ∃ S : ByteArray, S = ⟨a.toArray⟩ := ⟨_, rfl⟩
  obtain ⟨T, hT⟩ : ∃ S : ByteArray, S = ⟨b.toArray⟩ := ⟨_, rfl⟩
  have hb := str_beq hS hT
  rw [← hS] at c1
  rw [← hT] at c2
  clear hS hT
  generalize a.length = n at *
  generalize b.length = m at *
  clear hu hv
  generalize decide (a = b) = D at *
  cases D with
  | true =>
    go_enter Tryd.func28, Tryd.ntmps28
    go_wp2_with fail
    go_ret
    exact ⟨rfl, rfl⟩
  | false =>
    go_enter Tryd.func28, Tryd.ntmps28
    go_wp2_with fail
    go_ret
    exact ⟨rfl, rfl⟩

theorem results_ctt {fn : Func} {p q r : Tmp} {ty : TypeId} (h : fn.results = #[.cell p ty, .tmp q, .tmp r]) (tmps : Array Value) (P : Program) (w : World) :
    (results fn tmps).run P w = (((asAddr (tmps.getD p undef)).run P w).andThen fun a w₁ => (loadVar ty a).run P w₁).andThen fun x w₂ => .ok (.tuple #[x, tmps.getD q undef, tmps.getD r undef]) w₂ := by
  simp only [results, h]
  simp [Sem.run_bind, Result.andThen]
  cases Sem.run P (asAddr (tmps[p]?.getD undef)) w <;> rfl

/-- What the document's reader has of all. -/
def GoA (R : Bs) (id off n : Nat) (D : List Ent) (k : Nat) : Option Bs → Prop
  | some r' => ∃ r3, getAll R = (match getEs n r3 with | none => none | some (l, q) => some ((id, wrapS off, l), q)) ∧ Rest getEs n r3 D k r' ∧ r3.length + 20 ≤ R.length
  | none => ∀ id off l q, getAll R = some ((id, off, l), q) → ∃ c, encB id off l = .error c
theorem GoA.start {R : Bs} {id off n : Nat} {o1 o2 o3 : Option Bs} (h1 : ((some R).bind (numB 8) = none ∧ o1 = none ∧ id = 0) ∨ ∃ q, o1 = some q ∧ (some R).bind (numB 8) = some (id, q))
    (h2 : (o1.bind (numB 8) = none ∧ o2 = none ∧ off = 0) ∨ ∃ q, o2 = some q ∧ o1.bind (numB 8) = some (off, q)) (h3 : (o2.bind (numB 4) = none ∧ o3 = none ∧ n = 0) ∨ ∃ q, o3 = some q ∧ o2.bind (numB 4) = some (n, q)) :
    GoA R id off n [] n o3 := by
  rcases h1 with ⟨e1, rfl, _⟩ | ⟨q1, rfl, e1⟩
  · have e1 : numB 8 R = none := e1
    rcases h2 with ⟨_, rfl, _⟩ | ⟨q, _, h⟩
    · rcases h3 with ⟨_, rfl, _⟩ | ⟨q, _, h⟩
      · intro id' off' l q h; unfold getAll at h; rw [e1] at h; cases h
      · cases h
    · cases h
  · have e1 : numB 8 R = some (id, q1) := e1
    rcases h2 with ⟨e2, rfl, _⟩ | ⟨q2, rfl, e2⟩
    · have e2 : numB 8 q1 = none := e2
      rcases h3 with ⟨_, rfl, _⟩ | ⟨q, _, h⟩
      · intro id' off' l q h; unfold getAll at h; rw [e1] at h; simp only [e2] at h; cases h
      · cases h
    · have e2 : numB 8 q1 = some (off, q2) := e2
      rcases h3 with ⟨e3, rfl, _⟩ | ⟨q3, rfl, e3⟩
      · have e3 : numB 4 q2 = none := e3
        intro id' off' l q h; unfold getAll at h; rw [e1] at h; simp only [e2, e3] at h; cases h
      · have e3 : numB 4 q2 = some (n, q3) := e3
        refine ⟨q3, ?_, Rest.start _ _ _, by have := numB_len e1; have := numB_len e2; have := numB_len e3; omega⟩
        unfold getAll
        rw [e1]
        simp only [e2, e3]
        cases getEs n q3 <;> rfl
theorem GoA.step {R : Bs} {id off n : Nat} {D : List Ent} {k : Nat} {r' : Bs} {o' : Option Bs} {e : Ent} (h : GoA R id off n D (k + 1) (some r')) (hc : (getER r' = none ∧ o' = none) ∨ ∃ q, o' = some q ∧ getER r' = some (e, q)) : GoA R id off n (D ++ [e]) k o' := by
  obtain ⟨r3, h1, h2, h3⟩ := h
  rcases hc with ⟨hn, rfl⟩ | ⟨q, rfl, hs⟩
  · intro id' off' l q hg
    have hlost := GoS.bad h2 hn
    rw [h1] at hg
    cases hE : getEs n r3 with
    | none => rw [hE] at hg; cases hg
    | some p =>
      obtain ⟨l2, q2⟩ := p
      rw [hE] at hg
      cases hg
      obtain ⟨e, he, ho⟩ := hlost _ _ hE
      exact enc_not he ho
  · exact ⟨r3, h1, GoS.next h2 hs, h3⟩
theorem entry_any {g : Nat} {l : Bs} {w : World} {e : Ending} {w' : World} (h : EndR g (getER l) EntR badE w e w') :
    ∃ (key : Bs) (kk : Int) (s : Bs) (a1 : Option Addr) (n1 c1 : Nat) (a2 : Option Addr) (n2 c2 : Nat) (a3 : Option Addr) (n3 c3 : Nat) (till : Int) (L : List Bs) (Z : List (Bs × Int)) (H : List (Bs × Bs)) (o' : Option Bs),
      e = .returned (.agg #[strV key, .int .i64 kk, strV s, .slice a1 n1 c1, .slice a2 n2 c2, .slice a3 n3 c3, .int .i64 till]) ∧ KG g w w' ∧ StR w' g o' ∧
      ((getER l = none ∧ o' = none) ∨ ∃ q, o' = some q ∧ getER l = some (⟨key, ⟨kk, s, L, Z, H⟩, till⟩, q)) ∧ (o' ≠ none → SubT w' ⟨⟨key, ⟨kk, s, L, Z, H⟩, till⟩, .slice a1 n1 c1, .slice a2 n2 c2, .slice a3 n3 c3⟩) := by
  obtain ⟨hk, v, rfl, hm⟩ := h
  cases ht : getER l with
  | none =>
    rw [ht] at hm
    obtain ⟨⟨key, kk, s, a1, n1, c1, a2, n2, c2, a3, n3, c3, t, rfl⟩, hs⟩ := hm
    exact ⟨key, kk, s, a1, n1, c1, a2, n2, c2, a3, n3, c3, t, [], [], [], none, rfl, hk, hs, .inl ⟨rfl, rfl⟩, fun h => absurd rfl h⟩
  | some p =>
    obtain ⟨x, q⟩ := p
    rw [ht] at hm
    obtain ⟨⟨m, hme, rfl, hsub⟩, hs⟩ := hm
    obtain ⟨⟨key, ⟨kk, s, L, Z, H⟩, till⟩, vL, vZ, vH⟩ := m
    obtain ⟨apL, capL, eL, _⟩ := hsub.subs.1.parts
    obtain ⟨apZ, capZ, eZ, _⟩ := hsub.subs.2.1.parts
    obtain ⟨apH, capH, eH, _⟩ := hsub.subs.2.2.parts
    simp only at eL eZ eH hme
    subst eL eZ eH hme
    exact ⟨key, kk, s, _, _, _, _, _, _, _, _, _, till, L, Z, H, some q, rfl, hk, hs, .inr ⟨q, rfl, rfl⟩, fun _ => hsub⟩
end Go.Proofs.YtfhlhpknobkplaaDoor
namespace Go.Proofs.YtfhlhpknobkplaaDoor
open Go.RowKit
attribute [local go_sem] fold_part fold_some fold_some' partAt_zero

theorem set4 {w : World} {g : Nat} {a b c d : Value} {T : TypeId} (hg : w.heap[g]? = some (.cells #[a, b, c, d] T (0, 0))) (a' b' c' d' : Value) :
    ((((w.setCell ⟨g, 0, none⟩ a').setCell ⟨g, 1, none⟩ b').setCell ⟨g, 2, none⟩ c').setCell ⟨g, 3, none⟩ d').heap[g]? = some (.cells #[a', b', c', d'] T (0, 0)) ∧
    Kept (fun k => k = g) w ((((w.setCell ⟨g, 0, none⟩ a').setCell ⟨g, 1, none⟩ b').setCell ⟨g, 2, none⟩ c').setCell ⟨g, 3, none⟩ d') := by
  refine ⟨heap_setCell_same (heap_setCell_same (heap_setCell_same (heap_setCell_same hg 0 a') 1 b') 2 c') 3 d', ?_⟩
  exact Kept.setCell (S := fun k => k = g) (p := ⟨g, 3, none⟩) (Kept.setCell (S := fun k => k = g) (p := ⟨g, 2, none⟩) (Kept.setCell (S := fun k => k = g) (p := ⟨g, 1, none⟩) (Kept.setCell (S := fun k => k = g) (p := ⟨g, 0, none⟩) (Kept.refl _ w) (fun _ => rfl) _) (fun _ => rfl) _) (fun _ => rfl) _) (fun _ => rfl) _
theorem sum_four {x : Bs} {s : Nat} (hx : x.length = 4) (hs : s < 2 ^ 32) : (leB 4 s = x) ↔ leV x = s := by
  constructor
  · intro h; rw [← h]; exact leV_leB 4 s (by omega)
  · intro h; rw [← h, ← hx]; exact leB_leV x
/-- The world at the head of the entries' loop. -/
structure EsR (w : World) (g b0 : Nat) (ms : List EntM) (o : Option Bs) (vX : Value) (wr : World) : Prop where
  rd : StR wr g o
  kw : Kept NoBlock w wr
  res : wr.heap[b0]? = some (.cells #[.int .u64 0, .int .i64 0, .int .u64 0, .int .i64 0] 32 (0, 0))
  own : OwnK 7 56 eCells wr (g + 1) vX ms
  subs : o ≠ none → ∀ m ∈ ms, SubT wr m
theorem EsR.kept {w : World} {g b0 : Nat} {ms : List EntM} {o : Option Bs} {vX : Value} {wr w' : World} (h : EsR w g b0 ms o vX wr) (hk : Kept NoBlock wr w') : EsR w g b0 ms o vX w' :=
  ⟨h.rd.kept hk, h.kw.trans hk, hk.heap h.res (fun h => h), h.own.kept hk, fun ho m hm => (h.subs ho m hm).kept hk⟩
theorem StR.box {w : World} {g : Nat} {o : Option Bs} (h : StR w g o) : ∃ v f, w.heap[g]? = some (.cells #[v, .bool f] 70 (0, 0)) := by
  cases o with
  | none => obtain ⟨v, h⟩ := h; exact ⟨v, _, h⟩
  | some l3 => obtain ⟨v, h, _⟩ := h; exact ⟨v, _, h⟩
theorem EsR.read {w : World} {g b0 : Nat} {ms : List EntM} {o o' : Option Bs} {vX : Value} {wr w' : World} (h : EsR w g b0 ms o vX wr) (hk : KG g wr w') (hr : StR w' g o') (ho : o' ≠ none → o ≠ none) (hb : b0 < g) (hw : w.heap.size ≤ g) : EsR w g b0 ms o' vX w' := by
  obtain ⟨v, f, hg⟩ := h.rd.box
  exact ⟨hr, Kept.trans' h.kw hk (fun i hi e => by omega), hk.heap h.res (by omega), h.own.keptS hk (fun i hi _ e => by omega), fun hne m hm => (h.subs (ho hne) m hm).keptB hg (by decide) hk⟩
theorem EsR.grow {w : World} {g b0 : Nat} {ms ms' : List EntM} {o : Option Bs} {vX vX' : Value} {wr w' : World} (h : EsR w g b0 ms o vX wr) (hg : wr.grownBy w' vX.ownBlock) (hown : OwnK 7 56 eCells w' (g + 1) vX' ms')
    (hb : b0 < g) (hw : w.heap.size ≤ g) (hs : o ≠ none → ∀ m ∈ ms', SubT w' m) : EsR w g b0 ms' o vX' w' := by
  have hlt := h.own.lt
  have hk := grownS (B := g + 1) hg (fun j e => (hlt j e).1)
  exact ⟨h.rd.keptS hk (fun i hi e => by omega), Kept.trans' h.kw hk (fun i hi e => by omega), hk.heap h.res (by omega), hown, hs⟩

set_option maxRecDepth 100000 in
set_option maxHeartbeats 3200000 in
theorem rDecode (v : Value) (b : Bs) (w : World) (h : BytesV w v b) (hl : b.length ≤ 67108864) :
    Calls Tryd.prog 15 #[v] w (DecEnd w (decB b)) := by
  obtain ⟨ap, cap, rfl, hcp, _⟩ := h.parts
  generalize hM : decB b = M
  rw [dec_tail] at hM
  have HM := Lib.hid hM
  have HB := Lib.hid h
  obtain ⟨n, hn⟩ : ∃ n, n = b.length := ⟨_, rfl⟩
  rw [← hn] at hl HB HM hcp ⊢
  have HN := Lib.hid hn
  have HK1 := Lib.hid (Kept.allocd w (.cells #[.int .u64 0, .int .i64 0, .int .u64 0, .int .i64 0] 32))
  have HG1 := Lib.hid (heap_alloc_new w (.cells #[.int .u64 0, .int .i64 0, .int .u64 0, .int .i64 0] 32))
  have HS1 := Lib.hid (World.size_alloc w (.cells #[.int .u64 0, .int .i64 0, .int .u64 0, .int .i64 0] 32))
  clear hM h hn
  by_cases h33 : n < 33
  · obtain rfl : M = .error 200 := by have := HM.out; rw [if_pos (.inl h33)] at this; exact this.symm
    clear HM
    obtain ⟨e0, e1, e2, e3⟩ := blk4 HG1.out
    have hz := fun i => frozenB HG1.out i
    go_enter Tryd.func15, Tryd.ntmps15
    go_wp2_with fail
    refine bodyPost_ret (v := .tuple #[.agg #[.int .u64 0, .int .i64 0, .int .u64 0, .int .i64 0], .slice none 0 0, .int .i64 200]) ((results_ctt rfl _ _ _).trans ?_) rfl ?_
    · go_simp
    · exact ⟨HK1.out, rfl⟩
  · have hn33 : ¬ ((n : Int) < 33) := by omega
    have hc3 := conv_of (BytesV.front (HB.out.keptNo HK1.out) 9 (by omega))
    obtain ⟨S, hS⟩ : ∃ S : ByteArray, S = ⟨(b.take 9).toArray⟩ := ⟨_, rfl⟩
    rw [← hS] at hc3
    have hb9 : (S.toList == [77, 73, 76, 76, 80, 79, 78, 68, 1]) = decide (b.take 9 = signB) := by
      rw [hS, Go.ByteArray.toList_eq]
      show ((b.take 9) == signB) = decide _
      rw [Bool.eq_iff_iff]; simp
    clear hS
    by_cases hsg : b.take 9 = signB
    · rw [decide_eq_true hsg] at hb9
      have hm := HM.out
      rw [if_neg (by simp [h33, hsg])] at hm
      obtain ⟨m, hm4⟩ : ∃ m, n = m + 4 := ⟨n - 4, by omega⟩
      have hm29 : 29 ≤ m := by omega
      have hsub : (n : Int) - 4 = (m : Int) := by omega
      have hnm : n - 4 = m := by omega
      have hmw : IntKind.i64.wrap (m : Int) = (m : Int) := IntWalk.i64_in _ (by omega)
      have e4 : n - m = 4 := by omega
      rw [hnm] at hm
      have hlast := BytesV.tail (HB.out.keptNo HK1.out) m (by omega)
      have hbody := BytesV.front (HB.out.keptNo HK1.out) m (by omega)
      have HLA := Lib.hid hlast
      have HBO := Lib.hid hbody
      have hll : (b.drop m).length = 4 := by rw [List.length_drop]; have := HN.out; omega
      have hbl : (b.take m).length = m := by rw [List.length_take]; have := HN.out; omega
      have HLL := Lib.hid hll
      have HBL := Lib.hid hbl
      have HSG := Lib.hid hsg
      have HM2 := Lib.hid hm
      have hmc : m ≤ cap := by omega
      have hmn : m ≤ n := by omega
      have HM4 := Lib.hid hm4
      clear HM hm hsg hlast hbody hll hbl hm4 e4
      go_enter Tryd.func15, Tryd.ntmps15
      go_wp2_with fail
      generalize w.alloc (.cells #[.int .u64 0, .int .i64 0, .int .u64 0, .int .i64 0] 32) = W at *
      generalize hb0 : w.heap.size = b0 at *
      have HB0 := Lib.hid hb0
      clear hb0 hc3 hb9 hnm
      refine wp_tree (fun _ => True) 10 (.flt 0 (.flt 5 (.flt 6 (.flt 7 (.flt 8 (.flt 9 (.seg 1 (.seg 2 (.flt 3 (.seg 4 (.seg 10 (.fin [11])))))))))))) (by kernel_rfl) (by kernel_rfl) (fun _ _ _ dst _ h => by cases dst <;> exact h) (fun _ _ _ => trivial) trivial (fun n0 => ?_)
      repeat (refine tree_flt rfl rfl ?_; apply Exists.intro; refine ⟨fun w' hw' => ?_, ?_⟩; (go_simp; first | rfl | exact ⟨rfl, rfl⟩); simp only [Act.put, List.setIfInBounds_toArray, List.set_cons_succ, List.set_cons_zero])
      have hkn := (Kept.refl NoBlock W).drewN n0
      have hs4 : (W.drewN n0).heap.size = W.heap.size := rfl
      generalize W.drewN n0 = W1 at *
      refine tree_seg rfl ?_
      go_wp2_with fail
      have hka := hkn.trans (Kept.allocd W1 (.cells #[.slice ap m cap] 22))
      have hga := heap_alloc_new W1 (.cells #[.slice ap m cap] 22)
      have hbo2 := HBO.out.keptNo hka
      have hmat : MatV (W1.alloc (.cells #[.slice ap m cap] 22)) (.slice (some ⟨W1.heap.size, 0, none⟩) 1 1) [(.slice ap m cap, b.take m)] := by
        refine ⟨RowV.mk ⟨rfl, fun _ => ⟨_, rfl, fun j v hj => ?_⟩⟩ (Nat.le_refl _) (fun h => by cases h), fun p hp => ?_⟩
        · rw [addr_add, Nat.zero_add]
          exact cellB hga (by simpa using hj)
        · obtain rfl := List.mem_singleton.1 hp
          exact hbo2
      have hps := rsum _ [(.slice ap m cap, b.take m)] _ hmat (by simp) (fun p hp => by obtain rfl := List.mem_singleton.1 hp; have := HBL.out; simp only; omega)
      rw [sum_one, hs4] at hps
      have HPS := Lib.hid hps
      have HK2 := Lib.hid (HK1.out.trans hka)
      have HKW := Lib.hid hka
      have HG2 := Lib.hid (hka.heap HG1.out (fun h => h))
      have hsb := sumB_lt (b.take m)
      obtain ⟨sv, hsv⟩ : ∃ sv, sv = sumB (b.take m) := ⟨_, rfl⟩
      rw [← hsv] at HPS HM2 hsb
      have hwrp : IntKind.u64.wrap (sv : Int) = (sv : Int) := u64_wrap_id _ (by omega) (by omega)
      clear hka hga hbo2 hmat hps hkn hs4 hsv
      generalize W1.alloc (.cells #[.slice ap m cap] 22) = W2 at *
      refine Halt.mk ⟨.inr trivial, ?_⟩
      refine tree_seg rfl ?_
      go_wp2_with fail
      (with_reducible refine HPS.out.mono ?_)
      rintro e w3 ⟨rfl, rfl⟩
      go_wp2_with fail
      refine Halt.mk ⟨.inr trivial, ?_⟩
      refine tree_flt rfl rfl ?_; apply Exists.intro; refine ⟨fun w' hw' => ?_, ?_⟩; (go_simp; first | rfl | exact ⟨rfl, rfl⟩)
      simp only [Act.put, List.setIfInBounds_toArray, List.set_cons_succ, List.set_cons_zero]
      refine tree_seg rfl ?_
      have hnu := rnumber w3 w3 (.slice none 0 0) [] sv 4 ⟨Kept.refl _ _, OwnT.nil _ _⟩ (by omega) (by decide) (by decide)
      rw [show (((4 : Nat) : Int)) = 4 from rfl, List.nil_append] at hnu
      go_wp2_with fail
      (with_reducible refine hnu.mono ?_)
      rintro e w4 ⟨v4, rfl, hr4, _⟩
      have HK4 := Lib.hid (HK2.out.trans hr4.1)
      have HG4 := Lib.hid (hr4.1.heap HG2.out (fun h => h))
      have hsm := rsameB v4 _ (leB 4 sv) (b.drop m) w4 hr4.2.bytes (HLA.out.keptNo (HKW.out.trans hr4.1))
      obtain ⟨ap4, cap4, rfl, _⟩ := hr4.2.bytes.parts
      rw [leB_len] at hsm ⊢
      have HSM := Lib.hid hsm
      clear hnu hr4 hsm hwrp
      go_wp2_with fail
      refine Halt.mk ⟨.inr trivial, ?_⟩
      refine tree_seg rfl ?_
      go_wp2_with fail
      (with_reducible refine HSM.out.mono ?_)
      rintro e w5 ⟨rfl, rfl⟩
      cases hq : decide (leB 4 sv = b.drop m) with
      | false =>
        have hq2 : ¬ (leV (b.drop m) = sv) := fun h => by rw [decide_eq_false_iff_not] at hq; exact hq ((sum_four HLL.out hsb).2 h)
        obtain rfl : M = .error 201 := by have := HM2.out; rw [if_pos hq2] at this; exact this.symm
        clear hq hq2 HM2
        go_wp2_with fail
        refine Halt.mk ⟨.inl trivial, ?_⟩
        refine tree_fin ?_
        simp only [pick, List.filterMap_cons, List.filterMap_nil, List.getElem?_cons_succ, List.getElem?_cons_zero]
        repeat (quiet_step (fail))
        refine wpQuiet_nil ?_
        rintro _ ⟨n9, rfl⟩
        have HK6 := Lib.hid (HK4.out.drewN n9)
        have HG6 := Lib.hid (show (w5.drewN n9).heap[b0]? = _ from HG4.out)
        generalize w5.drewN n9 = w6 at *
        have HS4 := Lib.hid (set4 HG6.out (.int .u64 0) (.int .i64 0) (.int .u64 0) (.int .i64 0))
        obtain ⟨e0, e1, e2, e3⟩ := blk4 HG6.out
        have hz := fun i => frozenB HG6.out i
        go_wp2_with fail
        refine bodyPost_ret (v := .tuple #[.agg #[.int .u64 0, .int .i64 0, .int .u64 0, .int .i64 0], .slice none 0 0, .int .i64 201]) ((results_ctt rfl _ _ _).trans ?_) rfl ?_
        · obtain ⟨f0, f1, f2, f3⟩ := blk4 HS4.out.1
          generalize ((((w6.setCell ⟨b0, 0, none⟩ (.int .u64 0)).setCell ⟨b0, 1, none⟩ (.int .i64 0)).setCell ⟨b0, 2, none⟩ (.int .u64 0)).setCell ⟨b0, 3, none⟩ (.int .i64 0)) = W6 at *
          go_simp
        · exact ⟨Kept.trans' HK6.out HS4.out.2 (fun i hi e => by have := HB0.out; omega), rfl⟩
      | true =>
        have hq2 : leV (b.drop m) = sv := (sum_four HLL.out hsb).1 (by simpa using hq)
        have hm := HM2.out
        rw [if_neg (by simp [hq2])] at hm
        have HMT := Lib.hid hm
        have HGAL := Lib.hid (show b.length - 4 = m from by have h1 := HN.out; have h2 := HM4.out; omega)
        have hbd := BytesV.tail (BytesV.front (HB.out.keptNo HK4.out) m (by have := HM4.out; omega)) 9 (by omega)
        obtain ⟨blk, hblk, hblt⟩ := RowV.lt (show RowV w _ _ from HB.out) (by intro h; have hb : b = [] := List.map_eq_nil_iff.1 h; have h2 := HN.out; rw [hb, List.length_nil] at h2; omega)
        have HBK := Lib.hid hblk
        have hbk5 : blk < w5.heap.size := by have := HK4.out.size; omega
        have h9m : 9 ≤ m := by omega
        have h9c : 9 ≤ cap := by omega
        clear hq hq2 HM2 hm
        go_wp2_with fail
        refine Halt.mk ⟨.inl trivial, ?_⟩
        refine tree_fin ?_
        simp only [pick, List.filterMap_cons, List.filterMap_nil, List.getElem?_cons_succ, List.getElem?_cons_zero]
        repeat (quiet_step (fail))
        refine wpQuiet_nil ?_
        rintro _ ⟨n9, rfl⟩
        have hkd := (Kept.refl NoBlock w5).drewN n9
        have HK6 := Lib.hid (HK4.out.trans hkd)
        have HG6 := Lib.hid (show (w5.drewN n9).heap[b0]? = _ from HG4.out)
        have HBD := Lib.hid (hbd.keptNo hkd)
        have hbk6 : blk < (w5.drewN n9).heap.size := hbk5
        clear hbd hkd hbk5
        generalize w5.drewN n9 = w6 at *
        obtain ⟨R, hR⟩ : ∃ R, R = (b.take m).drop 9 := ⟨_, rfl⟩
        rw [← hR] at HBD
        have HR := Lib.hid hR
        have hRl : Hid (R.length = m - 9) := Lib.hid (by rw [hR, List.length_drop, HBL.out])
        clear hR
        have hbs : 0 < w6.heap.size := by omega
        have HK7 := Lib.hid (HK6.out.alloc (.cells #[.slice (partAt ap 9 cap) (m - 9) (cap - 9), .bool false] 70))
        have HG7 := Lib.hid (((Kept.refl NoBlock w6).alloc (.cells #[.slice (partAt ap 9 cap) (m - 9) (cap - 9), .bool false] 70)).heap HG6.out (fun h => h))
        have HR7 : Hid (StR (w6.alloc (.cells #[.slice (partAt ap 9 cap) (m - 9) (cap - 9), .bool false] 70)) w6.heap.size (some R)) := Lib.hid ⟨_, heap_alloc_new w6 _, HBD.out.keptNo (Kept.allocd w6 _), fun j hj => by
          rw [partAt_blk (n' := n) (c' := cap)] at hj
          have h1 := HBK.out
          rw [h1] at hj
          cases hj
          exact hbk6⟩
        go_wp2_with fail
        generalize w6.alloc (.cells #[.slice (partAt ap 9 cap) (m - 9) (cap - 9), .bool false] 70) = w7 at *
        have hwg : w.heap.size < w6.heap.size := by have := lt_of_heap HG6.out; have := HB0.out; omega
        have hb0g : b0 < w6.heap.size := lt_of_heap HG6.out
        have HGW := Lib.hid hwg
        generalize w6.heap.size = g at *
        have ht := fun W h => rnumR g (some R) 8 W h (by decide) (fun l' h => by cases h; have := hRl.out; omega)
        rw [show (((8 : Nat) : Int)) = 8 from rfl] at ht
        (with_reducible refine (ht w7 HR7.out).mono ?_)
        intro e w8 he
        obtain ⟨id, o1, rfl, hid, hk, hr, hc1⟩ := num_any he
        have hl1 : ∀ l', o1 = some l' → l'.length ≤ 100000000 := fun l' h => by
          rcases hc1 with ⟨_, rfl, _⟩ | ⟨q, rfl, h2⟩
          · cases h
          · cases h
            have := numB_len (show numB 8 R = _ from h2)
            have := hRl.out
            omega
        have HL1 := Lib.hid hl1
        have HK8 := Lib.hid (Kept.trans' (S := NoBlock) HK7.out hk (fun i hi e => by have := HGW.out; omega))
        have HG8 := Lib.hid (KG.heap hk HG7.out (by omega))
        have HR8 := Lib.hid hr
        have HC1 := Lib.hid hc1
        clear hk hr hc1 hl1 he ht
        go_wp2_with fail
        have ht := rnumR g o1 8 w8 HR8.out (by decide) (fun l' h => Nat.le_trans (HL1.out l' h) (by decide))
        rw [show (((8 : Nat) : Int)) = 8 from rfl] at ht
        (with_reducible refine ht.mono ?_)
        intro e w9 he
        obtain ⟨off, o2, rfl, hoff, hk, hr, hc2⟩ := num_any he
        have hl2 : ∀ l', o2 = some l' → l'.length ≤ 100000000 := fun l' h => by
          rcases hc2 with ⟨_, rfl, _⟩ | ⟨q, rfl, h2⟩
          · cases h
          · cases h
            obtain ⟨l1, h1, h3⟩ := numO_len h2
            have := numB_len h3
            have := HL1.out l1 h1
            omega
        have HL2 := Lib.hid hl2
        have HK9 := Lib.hid (Kept.trans' (S := NoBlock) HK8.out hk (fun i hi e => by have := HGW.out; omega))
        have HG9 := Lib.hid (KG.heap hk HG8.out (by omega))
        have HR9 := Lib.hid hr
        have HC2 := Lib.hid hc2
        clear hk hr hc2 hl2 he ht
        go_wp2_with fail
        have ht := rnumR g o2 4 w9 HR9.out (by decide) (fun l' h => Nat.le_trans (HL2.out l' h) (by decide))
        rw [show (((4 : Nat) : Int)) = 4 from rfl] at ht
        (with_reducible refine ht.mono ?_)
        intro e w10 he
        obtain ⟨ne, o3, rfl, hne, hk, hr, hc3⟩ := num_any he
        have HGO := Lib.hid (GoA.start HC1.out HC2.out hc3)
        have HK10 := Lib.hid (Kept.trans' (S := NoBlock) HK9.out hk (fun i hi e => by have := HGW.out; omega))
        have HEW : Hid (EsR w g b0 [] o3 (.slice none 0 0) w10) := Lib.hid ⟨hr, HK10.out, KG.heap hk HG9.out (by omega), OwnK.nil _ _, fun _ m hm => by cases hm⟩
        have hne4 : ne ≤ 4294967296 := by omega
        have hidl : id < 18446744073709551616 := by omega
        have hoffl : off < 18446744073709551616 := by omega
        have HID := Lib.hid hidl
        have HOF := Lib.hid hoffl
        clear hk hr hc3 he ht HG2 HK2 HG4 HK4 HG6 HK6 HG7 HK7 HR7 HK8 HG8 HR8 HC1 HL1 HK9 HG9 HR9 HC2 HL2 HK10 hid hoff hne hidl hoffl HKW HPS HSM HBD hbk6 hbs hsb
        go_wp2_with fail
        go_loopw [10, 11] (fun v10 v11 wr => ∃ (i : Nat) (ms : List EntM) (o : Option Bs), v11 = .int .u64 i ∧ i ≤ ne ∧ EsR w g b0 ms o v10 wr ∧ GoA R id off ne (ms.map (·.e)) (ne - i) o) (fun _ v11 _ => ne - (intOf v11).toNat)
        case atStart => exact ⟨0, [], o3, rfl, Nat.zero_le _, HEW.out, HGO.out⟩
        case round =>
          obtain ⟨i, ms, o, rfl, hi, hew, hgo⟩ := hrel
          have HW := Lib.hid hew
          have HRE := Lib.hid hgo
          have hfl := hew.rd.flag
          obtain ⟨apX, capX, rfl⟩ := OwnK.form (k := 7) (f := eCells) (fun _ => rfl) (by decide) hew.own
          clear hew hgo HEW HGO
          by_cases hgo : i < ne ∧ o ≠ none
          · obtain ⟨hin, hon⟩ := hgo
            obtain ⟨r', rfl⟩ : ∃ r', o = some r' := by cases o with | none => exact absurd rfl hon | some r' => exact ⟨r', rfl⟩
            have hfl : wr.cell? ⟨g, 1, none⟩ = some (.bool false) := hfl
            obtain ⟨q, hq⟩ : ∃ q, ne - i = q + 1 := ⟨ne - i - 1, by omega⟩
            have hres : (ms.map (·.e)).length + r'.length ≤ R.length := by
              obtain ⟨r3, _, h2, h3⟩ := HRE.out
              have := h2.2
              omega
            rw [List.length_map] at hres
            have hRll := hRl.out
            have hms : ms.length ≤ 67108864 := by omega
            have hrl : r'.length ≤ 67108864 := by omega
            have HQ := Lib.hid hq
            clear hq hon hres hRll
            go_wp2_with fail
            (with_reducible refine (rentryR g r' wr HW.out.rd (by omega)).mono ?_)
            intro e w13 he
            obtain ⟨key, kk, s, a1, n1, c1, a2, n2, c2, a3, n3, c3, till, L, Z, H, o', rfl, hk, hr, hc, hsub⟩ := entry_any he
            have HW13 := Lib.hid (HW.out.read hk hr (fun _ h => by cases h) hb0g (by have := HGW.out; omega))
            have HRE3 := Lib.hid (GoA.step (e := ⟨key, ⟨kk, s, L, Z, H⟩, till⟩) (by have := HRE.out; rw [HQ.out] at this; exact this) hc)
            have HSUB := Lib.hid hsub
            have HA := Lib.hid (Kept.allocd w13 (.cells #[.string ⟨key.toArray⟩, .int .i64 kk, .string ⟨s.toArray⟩, .slice a1 n1 c1, .slice a2 n2 c2, .slice a3 n3 c3, .int .i64 till] 56))
            have HGA13 := Lib.hid (heap_alloc_new w13 (.cells #[.string ⟨key.toArray⟩, .int .i64 kk, .string ⟨s.toArray⟩, .slice a1 n1 c1, .slice a2 n2 c2, .slice a3 n3 c3, .int .i64 till] 56))
            have HWA := Lib.hid (HW13.out.kept HA.out)
            clear hk hr hc hsub he hfl
            unfold strV
            go_wp2_with (at_builtin; refine wpList_appK rfl _ _ 33 (by rfl) Tryd.underlying33 _ 120 entInfo rfl (by decide) (by decide) (fun _ => rfl) (g + 1) (.slice apX ms.length capX) ms (by rfl) HWA.out.own w13.heap.size ⟨⟨key, ⟨kk, s, L, Z, H⟩, till⟩, .slice a1 n1 c1, .slice a2 n2 c2, .slice a3 n3 c3⟩ #[.string ⟨key.toArray⟩, .int .i64 kk, .string ⟨s.toArray⟩, .slice a1 n1 c1, .slice a2 n2 c2, .slice a3 n3 c3, .int .i64 till] (0, 0) (by rfl) HGA13.out rfl (by intro u hu; simp [eCells, strV] at hu; rcases hu with rfl | rfl | rfl | rfl | rfl | rfl | rfl <;> rfl) (by omega) (by have := HWA.out.rd.lt; omega) ?_; intro v' w' hown hgr; refine Hid.out ?_)
            have hss : o' ≠ none → ∀ m ∈ ms ++ [⟨⟨key, ⟨kk, s, L, Z, H⟩, till⟩, .slice a1 n1 c1, .slice a2 n2 c2, .slice a3 n3 c3⟩], SubT w' m := fun ho m hm => by
              rcases List.mem_append.1 hm with hm | hm
              · exact (HWA.out.subs ho m hm).grown HWA.out.own hgr
              · obtain rfl := List.mem_singleton.1 hm
                exact ((HSUB.out ho).kept HA.out).grown HWA.out.own hgr
            have HW14 := Lib.hid (HWA.out.grow hgr hown hb0g (by have := HGW.out; omega) hss)
            obtain ⟨apY, capY, rfl⟩ := OwnK.form (k := 7) (f := eCells) (fun _ => rfl) (by decide) hown
            rw [List.length_append, List.length_singleton] at HW14 ⊢
            clear hown hgr hss
            refine Lib.hid ?_
            go_wp2_with fail
            go_roundw
            case rel => exact ⟨i + 1, _, o', by go_num, by omega, HW14.out, by have h1 := HRE3.out; have h2 := HQ.out; rw [List.map_append, show ne - (i + 1) = q by omega]; exact h1⟩
            case measure => simp [intOf]; omega
          · cases o with
            | none =>
              obtain rfl : M = .error 200 := by
                rw [← HMT.out]
                refine tail_lost ?_
                rw [HGAL.out, ← HR.out]
                exact HRE.out
              have hfl : wr.cell? ⟨g, 1, none⟩ = some (.bool true) := hfl
              have HKE := Lib.hid HW.out.kw
              have HGE := Lib.hid HW.out.res
              clear hgo
              by_cases hin : i < ne
              · have HS4 := Lib.hid (set4 HGE.out (.int .u64 0) (.int .i64 0) (.int .u64 0) (.int .i64 0))
                obtain ⟨e0, e1, e2, e3⟩ := blk4 HGE.out
                have hz := fun i => frozenB HGE.out i
                go_wp2_with fail
                refine bodyPost_ret (v := .tuple #[.agg #[.int .u64 0, .int .i64 0, .int .u64 0, .int .i64 0], .slice none 0 0, .int .i64 200]) ((results_ctt rfl _ _ _).trans ?_) rfl ?_
                · obtain ⟨f0, f1, f2, f3⟩ := blk4 HS4.out.1
                  generalize ((((wr.setCell ⟨b0, 0, none⟩ (.int .u64 0)).setCell ⟨b0, 1, none⟩ (.int .i64 0)).setCell ⟨b0, 2, none⟩ (.int .u64 0)).setCell ⟨b0, 3, none⟩ (.int .i64 0)) = W6 at *
                  go_simp
                · exact ⟨Kept.trans' HKE.out HS4.out.2 (fun i hi e => by have := HB0.out; omega), rfl⟩
              · have HS4 := Lib.hid (set4 HGE.out (.int .u64 0) (.int .i64 0) (.int .u64 0) (.int .i64 0))
                obtain ⟨e0, e1, e2, e3⟩ := blk4 HGE.out
                have hz := fun i => frozenB HGE.out i
                go_wp2_with fail
                refine bodyPost_ret (v := .tuple #[.agg #[.int .u64 0, .int .i64 0, .int .u64 0, .int .i64 0], .slice none 0 0, .int .i64 200]) ((results_ctt rfl _ _ _).trans ?_) rfl ?_
                · obtain ⟨f0, f1, f2, f3⟩ := blk4 HS4.out.1
                  generalize ((((wr.setCell ⟨b0, 0, none⟩ (.int .u64 0)).setCell ⟨b0, 1, none⟩ (.int .i64 0)).setCell ⟨b0, 2, none⟩ (.int .u64 0)).setCell ⟨b0, 3, none⟩ (.int .i64 0)) = W6 at *
                  go_simp
                · exact ⟨Kept.trans' HKE.out HS4.out.2 (fun i hi e => by have := HB0.out; omega), rfl⟩
            | some q' =>
              have hfl : wr.cell? ⟨g, 1, none⟩ = some (.bool false) := hfl
              have hin : i = ne := by
                by_cases h : i < ne
                · exact absurd ⟨h, by simp⟩ hgo
                · omega
              subst hin
              obtain ⟨r3, h1, h2, h3⟩ := HRE.out
              rw [Nat.sub_self] at h2
              have hfin := Rest.fin h2 rfl
              have hall : getAll R = some ((id, wrapS off, ms.map (·.e)), q') := by rw [h1, hfin]
              obtain ⟨vR, hgr, hbR, _⟩ := HW.out.rd
              obtain ⟨apq, capq, rfl, _⟩ := hbR.parts
              obtain ⟨r0, _, _, _⟩ := blk2' hgr
              have HKE := Lib.hid HW.out.kw
              have HGE := Lib.hid HW.out.res
              have HALL := Lib.hid hall
              have HFIN := Lib.hid hfin
              have hr3 := hRl.out
              have hr3l : r3.length ≤ 67108864 := by omega
              have HRK : Hid (r3.length + 33 ≤ n) := Lib.hid (by have := HM4.out; omega)
              have hq67 : q'.length ≤ 67108864 := by have := h2.2; omega
              clear hgo h1 h2 hall hfin hgr hbR hr3 h3
              by_cases hq0 : q' = []
              · subst hq0
                rw [List.length_nil] at r0
                by_cases hof : 1125899906842624 < off
                · obtain rfl : M = .error 200 := by
                    rw [← HMT.out]
                    refine tail_lost ?_
                    rw [HGAL.out, ← HR.out]
                    intro id' off' l q h
                    rw [HALL.out] at h
                    cases h
                    exact enc_far hof HOF.out
                  have HS4 := Lib.hid (set4 HGE.out (.int .u64 0) (.int .i64 0) (.int .u64 0) (.int .i64 0))
                  obtain ⟨e0, e1, e2, e3⟩ := blk4 HGE.out
                  have hz := fun i => frozenB HGE.out i
                  go_wp2_with fail
                  refine bodyPost_ret (v := .tuple #[.agg #[.int .u64 0, .int .i64 0, .int .u64 0, .int .i64 0], .slice none 0 0, .int .i64 200]) ((results_ctt rfl _ _ _).trans ?_) rfl ?_
                  · obtain ⟨f0, f1, f2, f3⟩ := blk4 HS4.out.1
                    generalize ((((wr.setCell ⟨b0, 0, none⟩ (.int .u64 0)).setCell ⟨b0, 1, none⟩ (.int .i64 0)).setCell ⟨b0, 2, none⟩ (.int .u64 0)).setCell ⟨b0, 3, none⟩ (.int .i64 0)) = W6 at *
                    go_simp
                  · exact ⟨Kept.trans' HKE.out HS4.out.2 (fun i hi e => by have := HB0.out; omega), rfl⟩
                · have hwo : wrapS off = (off : Int) := by unfold wrapS; rw [if_pos (by omega)]
                  have hiw : IntKind.i64.wrap (off : Int) = (off : Int) := IntWalk.i64_in _ (by omega)
                  have hm := HMT.out
                  unfold tailB at hm
                  rw [HGAL.out, ← HR.out, HALL.out] at hm
                  simp only [hwo] at hm
                  obtain ⟨hfle, _, hsz⟩ := getEs_len i r3 HFIN.out
                  have hka := Kept.allocd wr (.cells #[.int .u64 id, .int .i64 off, .int .u64 0, .int .i64 0] 32)
                  have HWC := Lib.hid (HW.out.kept hka)
                  have HGC := Lib.hid (heap_alloc_new wr (.cells #[.int .u64 id, .int .i64 off, .int .u64 0, .int .i64 0] 32))
                  have hcl := HW.out.rd.lt
                  have hmsl : ms.length ≤ 67108864 := by
                    have h4 := flat_many entB (xs := ms.map (·.e)) (fun x => by unfold entB; simp)
                    rw [List.length_map] at h4
                    omega
                  have hpe := rEncode _ id 0 off 0 (.slice apX ms.length capX) ms ⟨OwnK.row (k := 7) (f := eCells) (fun _ => rfl) (by decide) HWC.out.own, fun m hm => (HWC.out.subs (by simp) m hm).subs⟩ HID.out (by omega) (fun m hm => (hsz m.e (List.mem_map_of_mem hm)).sized (by omega))
                    (fun _ => by simp only [writtenB, frontB, List.length_append, leB_len, signB, List.length_cons, List.length_nil]; have := HRK.out; omega)
                  rw [show (((0 : Nat) : Int)) = 0 from rfl] at hpe
                  have HPE := Lib.hid hpe
                  have HM5 := Lib.hid hm
                  have HCL := Lib.hid hcl
                  clear hm hpe hfle hsz hka hwo HRE HALL HFIN HW hr3l
                  go_wp2_with fail
                  generalize wr.alloc (.cells #[.int .u64 id, .int .i64 off, .int .u64 0, .int .i64 0] 32) = wc at *
                  generalize wr.heap.size = c at *
                  obtain ⟨g0, g1, g2, g3⟩ := blk4 HGC.out
                  clear r0 hfl hiw
                  (with_reducible refine HPE.out.mono ?_)
                  intro e w13 he
                  cases hE : encB id (off : Int) (ms.map (·.e)) with
                  | error cc =>
                    have hcc := encB_err hE
                    have hm := HM5.out
                    rw [hE] at he hm
                    simp only at hm
                    subst hm
                    obtain ⟨rfl, hk⟩ := he
                    have hcb : ((cc : Int) == 0) = false := by rw [beq_eq_false_iff_ne]; exact hcc
                    have HKF := Lib.hid (HWC.out.kw.trans hk)
                    have HGF := Lib.hid (hk.heap HWC.out.res (fun h => h))
                    clear hk hE HM5 g0 g1 g2 g3 HKE HGE
                    have HS4 := Lib.hid (set4 HGF.out (.int .u64 0) (.int .i64 0) (.int .u64 0) (.int .i64 0))
                    obtain ⟨e0, e1, e2, e3⟩ := blk4 HGF.out
                    have hz := fun i => frozenB HGF.out i
                    go_wp2_with fail
                    refine bodyPost_ret (v := .tuple #[.agg #[.int .u64 0, .int .i64 0, .int .u64 0, .int .i64 0], .slice none 0 0, .int .i64 200]) ((results_ctt rfl _ _ _).trans ?_) rfl ?_
                    · obtain ⟨f0, f1, f2, f3⟩ := blk4 HS4.out.1
                      generalize ((((w13.setCell ⟨b0, 0, none⟩ (.int .u64 0)).setCell ⟨b0, 1, none⟩ (.int .i64 0)).setCell ⟨b0, 2, none⟩ (.int .u64 0)).setCell ⟨b0, 3, none⟩ (.int .i64 0)) = W6 at *
                      go_simp
                    · exact ⟨Kept.trans' HKF.out HS4.out.2 (fun i hi e => by have := HB0.out; omega), rfl⟩
                  | ok x =>
                    have hm := HM5.out
                    rw [hE] at he hm
                    simp only at hm
                    obtain ⟨v5, rfl, ho5, hk⟩ := he
                    have HWF := Lib.hid (HWC.out.kept hk)
                    have HGC2 := Lib.hid (hk.heap HGC.out (fun h => h))
                    have HKF := Lib.hid (HWC.out.kw.trans hk)
                    have HGF := Lib.hid (hk.heap HWC.out.res (fun h => h))
                    have hsm := rsameB v5 _ x b w13 ho5.bytes (HB.out.keptNo HKF.out)
                    obtain ⟨ap5, cap5, rfl, _⟩ := ho5.bytes.parts
                    have HSM := Lib.hid hsm
                    have HM6 := Lib.hid hm
                    clear hk hE HM5 g0 g1 g2 g3 HKE HGE hsm hm ho5 HPE HWC HGC
                    go_wp2_with fail
                    (with_reducible refine HSM.out.mono ?_)
                    rintro e w14 ⟨rfl, rfl⟩
                    cases hxb : decide (x = b) with
                    | false =>
                      obtain rfl : M = .error 200 := by have h := HM6.out; rw [if_neg (by simpa using hxb)] at h; exact h.symm
                      clear hxb HM6
                      have HS4 := Lib.hid (set4 HGF.out (.int .u64 0) (.int .i64 0) (.int .u64 0) (.int .i64 0))
                      obtain ⟨e0, e1, e2, e3⟩ := blk4 HGF.out
                      have hz := fun i => frozenB HGF.out i
                      go_wp2_with fail
                      refine bodyPost_ret (v := .tuple #[.agg #[.int .u64 0, .int .i64 0, .int .u64 0, .int .i64 0], .slice none 0 0, .int .i64 200]) ((results_ctt rfl _ _ _).trans ?_) rfl ?_
                      · obtain ⟨f0, f1, f2, f3⟩ := blk4 HS4.out.1
                        generalize ((((w14.setCell ⟨b0, 0, none⟩ (.int .u64 0)).setCell ⟨b0, 1, none⟩ (.int .i64 0)).setCell ⟨b0, 2, none⟩ (.int .u64 0)).setCell ⟨b0, 3, none⟩ (.int .i64 0)) = W6 at *
                        go_simp
                      · exact ⟨Kept.trans' HKF.out HS4.out.2 (fun i hi e => by have := HB0.out; omega), rfl⟩
                    | true =>
                      obtain rfl : M = .ok (id, (off : Int), ms.map (·.e)) := by have h := HM6.out; rw [if_pos (by simpa using hxb)] at h; exact h.symm
                      clear hxb HM6
                      have HS4 := Lib.hid (set4 HGF.out (.int .u64 id) (.int .i64 off) (.int .u64 0) (.int .i64 0))
                      obtain ⟨e0, e1, e2, e3⟩ := blk4 HGF.out
                      obtain ⟨g0, g1, g2, g3⟩ := blk4 HGC2.out
                      have hz := fun i => frozenB HGF.out i
                      go_wp2_with fail
                      refine bodyPost_ret (v := .tuple #[.agg #[.int .u64 id, .int .i64 off, .int .u64 0, .int .i64 0], .slice apX ms.length capX, .int .i64 0]) ((results_ctt rfl _ _ _).trans ?_) rfl ?_
                      · obtain ⟨f0, f1, f2, f3⟩ := blk4 HS4.out.1
                        generalize ((((w14.setCell ⟨b0, 0, none⟩ (.int .u64 id)).setCell ⟨b0, 1, none⟩ (.int .i64 off)).setCell ⟨b0, 2, none⟩ (.int .u64 0)).setCell ⟨b0, 3, none⟩ (.int .i64 0)) = W6 at *
                        go_simp
                      · have hks := HS4.out.2
                        refine ⟨Kept.trans' HKF.out hks (fun i hi e => by have := HB0.out; omega), _, ms, rfl, rfl, ?_, fun m hm => ((HWF.out.subs (by simp) m hm).keptB HGF.out (by decide) hks).subs⟩
                        exact OwnK.row (k := 7) (f := eCells) (fun _ => rfl) (by decide) (HWF.out.own.keptS hks (fun i hi _ e => by omega))
              · obtain rfl : M = .error 200 := by
                  rw [← HMT.out]
                  exact tail_rest (by rw [HGAL.out, ← HR.out]; exact HALL.out) hq0
                have hlen : 0 < q'.length := List.length_pos_iff.2 hq0
                clear hq0 HALL HFIN HRE
                generalize q'.length = ql at *
                have HS4 := Lib.hid (set4 HGE.out (.int .u64 0) (.int .i64 0) (.int .u64 0) (.int .i64 0))
                obtain ⟨e0, e1, e2, e3⟩ := blk4 HGE.out
                have hz := fun i => frozenB HGE.out i
                go_wp2_with fail
                refine bodyPost_ret (v := .tuple #[.agg #[.int .u64 0, .int .i64 0, .int .u64 0, .int .i64 0], .slice none 0 0, .int .i64 200]) ((results_ctt rfl _ _ _).trans ?_) rfl ?_
                · obtain ⟨f0, f1, f2, f3⟩ := blk4 HS4.out.1
                  generalize ((((wr.setCell ⟨b0, 0, none⟩ (.int .u64 0)).setCell ⟨b0, 1, none⟩ (.int .i64 0)).setCell ⟨b0, 2, none⟩ (.int .u64 0)).setCell ⟨b0, 3, none⟩ (.int .i64 0)) = W6 at *
                  go_simp
                · exact ⟨Kept.trans' HKE.out HS4.out.2 (fun i hi e => by have := HB0.out; omega), rfl⟩
    · rw [decide_eq_false hsg] at hb9
      obtain rfl : M = .error 200 := by have := HM.out; rw [if_pos (.inr hsg)] at this; exact this.symm
      clear HM
      obtain ⟨e0, e1, e2, e3⟩ := blk4 HG1.out
      have hz := fun i => frozenB HG1.out i
      go_enter Tryd.func15, Tryd.ntmps15
      go_wp2_with fail
      refine bodyPost_ret (v := .tuple #[.agg #[.int .u64 0, .int .i64 0, .int .u64 0, .int .i64 0], .slice none 0 0, .int .i64 200]) ((results_ctt rfl _ _ _).trans ?_) rfl ?_
      · go_simp
      · exact ⟨HK1.out, rfl⟩
end Go.Proofs.YtfhlhpknobkplaaDoor
namespace Go.Proofs.YtfhlhpknobkplaaDoor
open Go.RowKit
attribute [local go_sem] fold_part fold_some fold_some' partAt_zero

set_option maxRecDepth 100000 in
set_option maxHeartbeats 1600000 in
theorem law_reads (va : Value) (a : Bs) (w : World) (hV : Vs w) (ha : BytesV w va a) :
    Calls Tryd.prog 4 #[va] w fun e w' => e = .returned (.bool true) ∧ Kept NoBlock w w' := by
  have hca := pcutB va a w ha
  have hal := cutB_le a
  have HV0 := Lib.hid hV
  have HCA := Lib.hid hca
  clear hV hca ha
  go_enter Tryd.func4, Tryd.ntmps4
  go_wp2_with fail
  (with_reducible refine HCA.out.mono ?_)
  rintro e W ⟨⟨ua, rfl, hA, _⟩, rfl⟩
  generalize hX : cutB a = X at *
  clear hX
  have HKW := Lib.hid (Kept.refl NoBlock W)
  have HXL : Hid (X.length ≤ 67108864) := Lib.hid (by omega)
  have HV := HV0
  have HX := Lib.hid hA
  obtain ⟨apu, capu, rfl, _⟩ := hA.parts
  clear hA HCA HV0
  have HPD := Lib.hid (fun w' (hk : Kept NoBlock W w') => pDecode _ X w' (HV.out.kept hk) (HX.out.keptNo hk) HXL.out)
  have HRD := Lib.hid (fun w' (hk : Kept NoBlock W w') => rDecode _ X w' (HX.out.keptNo hk) HXL.out)
  obtain ⟨M, hM⟩ : ∃ M, M = decB X := ⟨_, rfl⟩
  rw [← hM] at HPD HRD
  have HDD := Lib.hid hM.symm
  clear hM
  obtain ⟨n, hn⟩ : ∃ n, n = X.length := ⟨_, rfl⟩
  rw [← hn] at HPD HRD ⊢
  clear hn
  go_wp2_with fail
  (with_reducible refine (HPD.out W (Kept.refl _ _)).mono ?_)
  rintro e w3 ⟨hk3, he⟩
  cases M with
  | error c =>
    have he := he
    subst he
    have HK3 := Lib.hid (hk3.alloc (.cells #[.int .u64 0, .int .i64 0, .int .u64 0, .int .i64 0] 32))
    have HG3 := Lib.hid (heap_alloc_new w3 (.cells #[.int .u64 0, .int .i64 0, .int .u64 0, .int .i64 0] 32))
    clear hk3
    go_wp2_with fail
    generalize w3.alloc (.cells #[.int .u64 0, .int .i64 0, .int .u64 0, .int .i64 0] 32) = w4 at *
    generalize w3.heap.size = g3 at *
    (with_reducible refine (HRD.out w4 HK3.out).mono ?_)
    rintro e w5 ⟨hk5, he⟩
    subst he
    have HK5 := Lib.hid ((HK3.out.trans hk5).alloc (.cells #[.int .u64 0, .int .i64 0, .int .u64 0, .int .i64 0] 32))
    have HG5 := Lib.hid ((hk5.alloc (.cells #[.int .u64 0, .int .i64 0, .int .u64 0, .int .i64 0] 32)).heap HG3.out (fun h => h))
    have HG6 := Lib.hid (heap_alloc_new w5 (.cells #[.int .u64 0, .int .i64 0, .int .u64 0, .int .i64 0] 32))
    have HRS := Lib.hid (rsame (.slice none 0 0) (.slice none 0 0) [] [] (w5.alloc (.cells #[.int .u64 0, .int .i64 0, .int .u64 0, .int .i64 0] 32)) ⟨RowK.nil _, fun m hm => by cases hm⟩ ⟨RowK.nil _, fun m hm => by cases hm⟩ rfl (by decide) (fun m hm => by cases hm))
    clear hk5
    obtain ⟨a0, a1, a2, a3⟩ := blk4 HG5.out
    obtain ⟨b0, b1, b2, b3⟩ := blk4 HG6.out
    go_wp2_with fail
    (with_reducible refine HRS.out.mono ?_)
    rintro e w7 ⟨rfl, hk7⟩
    have HK7 := Lib.hid (HK5.out.trans hk7)
    have HA := Lib.hid (lawake w7 (HV.out.kept HK7.out))
    clear hk7 a0 a1 a2 a3 b0 b1 b2 b3
    go_wp2_with fail
    (with_reducible refine HA.out.mono ?_)
    rintro e w8 ⟨rfl, hk8⟩
    have HK8 := Lib.hid (HK7.out.trans hk8)
    clear hk8
    go_wp2_with fail
    go_ret
    exact ⟨rfl, HKW.out.trans HK8.out⟩
  | ok p =>
    have HD := Lib.hid HDD.out
    obtain ⟨id, off, l⟩ := p
    obtain ⟨v3, ms3, rfl, hme3, hes3⟩ := he
    obtain ⟨hll, hls⟩ := decB_sized HD.out
    obtain ⟨ap3, cap3, rfl, _⟩ := hes3.1.parts
    have HE3 := Lib.hid hes3
    have HK3 := Lib.hid (hk3.alloc (.cells #[.int .u64 id, .int .i64 off, .int .u64 0, .int .i64 0] 32))
    have HG3 := Lib.hid (heap_alloc_new w3 (.cells #[.int .u64 id, .int .i64 off, .int .u64 0, .int .i64 0] 32))
    have HE4 := Lib.hid (HE3.out.kept (Kept.allocd w3 (.cells #[.int .u64 id, .int .i64 off, .int .u64 0, .int .i64 0] 32)))
    clear hk3 hes3
    go_wp2_with fail
    generalize w3.alloc (.cells #[.int .u64 id, .int .i64 off, .int .u64 0, .int .i64 0] 32) = w4 at *
    generalize w3.heap.size = g3 at *
    (with_reducible refine (HRD.out w4 HK3.out).mono ?_)
    rintro e w5 ⟨hk5, he⟩
    obtain ⟨v5, ms5, rfl, hme5, hes5⟩ := he
    obtain ⟨ap5, cap5, rfl, _⟩ := hes5.1.parts
    have HK5 := Lib.hid ((HK3.out.trans hk5).alloc (.cells #[.int .u64 id, .int .i64 off, .int .u64 0, .int .i64 0] 32))
    have HG5 := Lib.hid ((hk5.alloc (.cells #[.int .u64 id, .int .i64 off, .int .u64 0, .int .i64 0] 32)).heap HG3.out (fun h => h))
    have HG6 := Lib.hid (heap_alloc_new w5 (.cells #[.int .u64 id, .int .i64 off, .int .u64 0, .int .i64 0] 32))
    have HRS := Lib.hid (rsame _ _ ms3 ms5 (w5.alloc (.cells #[.int .u64 id, .int .i64 off, .int .u64 0, .int .i64 0] 32)) (HE4.out.kept (hk5.alloc (.cells #[.int .u64 id, .int .i64 off, .int .u64 0, .int .i64 0] 32))) (hes5.kept (Kept.allocd w5 (.cells #[.int .u64 id, .int .i64 off, .int .u64 0, .int .i64 0] 32))) (hme3.trans hme5.symm) (by have h1 := congrArg List.length hme3; rw [List.length_map] at h1; have := HXL.out; omega) (fun m hm => (hls m.e (by rw [← hme3]; exact List.mem_map_of_mem hm)).sized (by have := HXL.out; omega)))
    clear hk5 hes5 hme3 hme5 hll hls
    obtain ⟨a0, a1, a2, a3⟩ := blk4 HG5.out
    obtain ⟨b0, b1, b2, b3⟩ := blk4 HG6.out
    go_wp2_with fail
    (with_reducible refine HRS.out.mono ?_)
    rintro e w7 ⟨rfl, hk7⟩
    have HK7 := Lib.hid (HK5.out.trans hk7)
    have HA := Lib.hid (lawake w7 (HV.out.kept HK7.out))
    clear hk7 a0 a1 a2 a3 b0 b1 b2 b3
    go_wp2_with fail
    (with_reducible refine HA.out.mono ?_)
    rintro e w8 ⟨rfl, hk8⟩
    have HK8 := Lib.hid (HK7.out.trans hk8)
    clear hk8
    go_wp2_with fail
    go_ret
    exact ⟨rfl, HKW.out.trans HK8.out⟩
end Go.Proofs.YtfhlhpknobkplaaDoor
