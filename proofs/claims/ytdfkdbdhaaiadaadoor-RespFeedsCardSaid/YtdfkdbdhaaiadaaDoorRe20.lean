/- The law of pieces. -/
import Derived.Test.YtdfkdbdhaaiadaaDoorRe18
namespace Go.Proofs.YtdfkdbdhaaiadaaDoor
open Go.RowKit
attribute [local go_sem] fold_part fold_some fold_some' partAt_zero

/-- Rows appended to rows: all are there, each its own. -/
theorem outs_append {W w1 : World} {B : Nat} {v u v' : Value} {out out2 : Outs} (ho : OutsAt W B v out) (hu : OutsAt W B u out2) (hgrow : W.grownBy w1 v.ownBlock)
    (hown' : w1.ownsRow B 48 1 v' (out.length + out2.length) (out.map (·.1) ++ out2.map (·.1))) : OutsAt w1 B v' (out ++ out2) := by
  have hts : (9 : TypeId) ≠ 48 := by decide
  refine ⟨by rw [List.length_append, List.map_append]; exact hown', fun p hp => ?_⟩
  have hpW : OwnS W B p.1 p.2 := by
    rcases List.mem_append.1 hp with h | h
    · exact ho.2 p h
    · exact hu.2 p h
  exact World.ownsRow.kept hpW hgrow (ownsRow_other hts hpW ho.1)

theorem OutsAt.lower {w : World} {B B' : Nat} {v : Value} {out : Outs} (h : OutsAt w B v out) (hb : B' ≤ B) : OutsAt w B' v out := ⟨ownsRow_lower h.1 hb, fun p hp => ownsRow_lower (h.2 p hp) hb⟩

theorem outs_one (out : Outs) (w : World) (B : Nat) (h : ∀ p ∈ out, OwnS w B p.1 p.2) : ∀ u ∈ out.map (·.1), u.oneCell' = true := by
  intro u hu
  obtain ⟨p, hp, rfl⟩ := List.mem_map.1 hu
  obtain ⟨ap, c, e, _⟩ := ownsRow_form (h p hp)
  rw [e]; rfl

/-- Where the reader stands: what came, what it keeps, what is left to feed. -/
def Stand (b : Bs) (got : List (List Bs)) (told rest : Bs) (g : Nat) (w : World) : Prop :=
  (told = [] ∧ ∃ X k, X ++ rest = b ∧ Fed parseV X got k ∧ RdrAt w g false k ∧ k.length ≤ X.length) ∨ (told ≠ [] ∧ got = (split parseV b).1 ∧ told = (split parseV b).2.2)

theorem Stand.done {b : Bs} {got : List (List Bs)} {told rest : Bs} {g : Nat} {w : World} (h : Stand b got told rest g w) (hr : rest = [] ∨ told ≠ []) : got = (split parseV b).1 ∧ told = (split parseV b).2.2 := by
  rcases h with ⟨h1, X, k, h2, h3, h4, _⟩ | ⟨_, h2, h3⟩
  · rcases hr with rfl | h
    · rw [List.append_nil] at h2
      subst h2
      exact ⟨h3.got.symm, by rw [h1, h3.clean]⟩
    · exact absurd h1 h
  · exact ⟨h2, h3⟩

/-- One more piece. -/
theorem Stand.fed {b : Bs} {got : List (List Bs)} {X k y rest' : Bs} {g : Nat} {w' : World} (hX : X ++ (y ++ rest') = b) (hF : Fed parseV X got k) (hk : k.length ≤ X.length)
    (hr : ((split parseV (k ++ y)).2.2 = [] ∧ RdrAt w' g false ((k ++ y).drop (split parseV (k ++ y)).2.1)) ∨ ((split parseV (k ++ y)).2.2 ≠ [] ∧ RdrAt w' g true [])) :
    Stand b (got ++ (split parseV (k ++ y)).1) (split parseV (k ++ y)).2.2 rest' g w' := by
  rcases hr with ⟨h1, h2⟩ | ⟨h1, _⟩
  · refine .inl ⟨h1, X ++ y, _, by rw [← hX, List.append_assoc], hF.more y h1, h2, ?_⟩
    rw [List.length_drop, List.length_append, List.length_append]; omega
  · have := hF.fault y rest' h1
    rw [List.append_assoc, hX] at this
    exact .inr ⟨h1, this.1.symm, this.2.symm⟩
/-- How many requests there may be. -/
theorem splitA_len (k : Nat) : ∀ (out : List (List Bs)) (n : Nat) (b : Bs), b.length ≤ k → (splitA parseV out n b).1.length + n ≤ out.length + (splitA parseV out n b).2.1 := by
  induction k with
  | zero =>
    intro out n b hb
    have : b = [] := List.eq_nil_of_length_eq_zero (by omega)
    subst this
    rw [splitA_wait parseV rfl]
    exact Nat.le_refl _
  | succ k ih =>
    intro out n b hb
    cases h : first parseV b with
    | wait => rw [splitA_wait parseV h]; exact Nat.le_refl _
    | wrong f => rw [splitA_wrong parseV h]; exact Nat.le_refl _
    | ok p =>
      obtain ⟨l, m⟩ := p
      have h1 := first_ok parseV h
      rw [splitA_ok parseV h]
      have := ih (if l = [] then out else out ++ [l]) (n + m) (b.drop m) (by rw [List.length_drop]; omega)
      have h2 : (if l = [] then out else out ++ [l]).length ≤ out.length + 1 := by split <;> simp
      omega

theorem split_len (b : Bs) : (split parseV b).1.length ≤ b.length := by
  have h1 := splitA_len b.length [] 0 b (Nat.le_refl _)
  have h2 := split_le parseV b
  unfold split at h2 ⊢
  simp only [List.length_nil] at h1
  omega

/-- A reader's own bytes are no row of requests: it stands while that grows. -/
theorem RdrAt.grown {W w1 : World} {g : Nat} {d : Bool} {l : Bs} {B n : Nat} {v : Value} {xs : List Value} (h : RdrAt W g d l) (hrow : W.ownsRow B 48 1 v n xs) (hgrow : W.grownBy w1 v.ownBlock) (hB : g < B) : RdrAt w1 g d l := by
  obtain ⟨u, hg, hu, hn, ht⟩ := h
  have hne : ∀ k cs, W.heap[k]? = some (.cells cs 5 (0, 0)) → some k ≠ v.ownBlock := by
    intro k cs hk e
    rcases hrow.2 with ⟨rfl, _⟩ | ⟨g', cap', cur, rfl, _, h3, _⟩
    · cases e
    · obtain rfl : k = g' := by simpa [Value.ownBlock] using e
      rw [hk] at h3
      have := (Obj.cells.inj (Option.some.inj h3)).2.1
      exact absurd this (by decide)
  have hkept : Kept (fun k => some k = v.ownBlock) W w1 := ⟨hgrow.os, hgrow.tape, hgrow.output, hgrow.size, fun k hk hn => hgrow.block k hk hn⟩
  refine ⟨u, hkept.heap hg (fun e => ?_), hu.kept hkept (fun k e e2 => ?_), hn, fun k e => ?_⟩
  · have := (hrow.lt g e.symm).1; omega
  · obtain ⟨cs, h⟩ := ht k e
    exact hne k cs h e2
  · obtain ⟨cs, h⟩ := ht k e
    exact ⟨cs, hkept.heap h (hne k cs h)⟩

theorem Stand.len {b : Bs} {got : List (List Bs)} {told rest : Bs} {g : Nat} {w : World} (h : Stand b got told rest g w) (hb : b.length ≤ 300000) : got.length ≤ 300000 := by
  rcases h with ⟨_, X, k, h2, h3, _, _⟩ | ⟨_, h2, _⟩
  · have h4 := split_len X
    rw [h3.got] at h4
    have := congrArg List.length h2
    rw [List.length_append] at this
    omega
  · have h4 := split_len b
    rw [← h2] at h4
    omega

/-- What the loop keeps. -/
structure PcAt (b u0 : Bs) (w3 : World) (g : Nat) (vb vg vt vi : Value) (wr : World) (rest : Bs) (out : Outs) (told : Bs) (i : Nat) : Prop where
  bytes : BytesV wr vb rest
  blk : ∀ k, vblk vb = some k → k < g
  ftold : vt = strV told
  idx : vi = .int .i64 (i : Nat)
  outs : OutsAt wr (g + 1) vg out
  stand : Stand b (out.map (·.2)) told rest g wr
  kept : Kept (fun k => k = g) w3 wr
  ile : i ≤ 201
  last : i ≤ 200 ∨ rest = []
  olen : out.length ≤ 300000

set_option maxRecDepth 100000 in
set_option maxHeartbeats 1600000 in
theorem law_pieces (va vc : Value) (b0 cs : Bs) (w : World) (hV : Vs w) (ha : BytesV w va b0) (hc : BytesV w vc cs) (hlt : ∀ k, vblk va = some k → k < w.heap.size) (hltc : ∀ k, vblk vc = some k → k < w.heap.size) (hcl : cs.length ≤ 9223372036854775807) :
    Calls Tryd.prog 4 #[va, vc] w fun e w' => e = .returned (.bool true) ∧ Kept NoBlock w w' := by
  obtain ⟨i0, hi, hz0, hz1, hz2⟩ := info_parts strSlInfo
  obtain ⟨ap0, cap0, rfl, _, _⟩ := ha.parts
  obtain ⟨apc, capc, rfl, hcc, _⟩ := hc.parts
  have HB := Lib.hid ha
  have HC := Lib.hid hc
  have HLT := Lib.hid hlt
  have HLC := Lib.hid hltc
  have HV := Lib.hid hV
  clear ha hc hlt hltc hV
  generalize b0.length = n0 at *
  go_enter Tryd.func4, Tryd.ntmps4
  go_wp2_with (first | (go_at_call 14; refine (pawake w HV.out).mono ?_; rintro e w1 ⟨rfl, hk1⟩) | (go_at_call 10; refine (pcut _ b0 w1 (HB.out.keptNo hk1)).mono ?_; rintro e w' ⟨u, rfl, hu, rfl, hub⟩; refine Hid.out ?_))
  obtain ⟨b, hb⟩ : ∃ b, b = b0.take 300000 := ⟨_, rfl⟩
  have hbl : b.length ≤ 300000 := by rw [hb, List.length_take]; omega
  rw [← hb] at hu
  have hV1 := HV.out.below hk1.toB
  have hlt1 : ∀ k, vblk u = some k → k < w1.heap.size := fun k e => by have := HLT.out k (by rw [← hub]; exact e); have := hk1.size; omega
  have hs1 := psplit' u b w1 hV1 hu (by omega) hlt1
  obtain ⟨apu, cu, rfl, hcu, _⟩ := hu.parts
  obtain ⟨S, hS⟩ : ∃ S, S = split parseV b := ⟨_, rfl⟩
  rw [← hS] at hs1
  have HS1 := Lib.hid hs1
  have HU := Lib.hid hu
  have HV1 := Lib.hid hV1
  have HL1 := Lib.hid hlt1
  have HK1 := Lib.hid hk1
  have HS := Lib.hid hS
  have HBL := Lib.hid hbl
  clear hs1 hu hV1 hlt1 hk1 hS hb hub HB HLT
  refine Lib.hid ?_
  go_wp2_with (first | (go_at_call 11; refine HS1.out.mono ?_; rintro e w2 ⟨hk2, ap2, c2, rfl, hc2, hq2⟩) | (go_at_call 15; refine (pnew w2).mono ?_; rintro e w3 ⟨rfl, hr3, rfl⟩))
  obtain ⟨w3, hw3⟩ : ∃ w3, w3 = w2.alloc (.cells #[.bool true, .bool false, .slice none 0 0] 46) := ⟨_, rfl⟩
  rw [← hw3] at hr3 ⊢
  have hkA : Kept NoBlock w1 w3 := hk2.trans (by rw [hw3]; exact (Kept.refl _ w2).alloc _)
  have hk23 : Kept NoBlock w2 w3 := by rw [hw3]; exact (Kept.refl _ w2).alloc _
  have hsz3 : w3.heap.size = w2.heap.size + 1 := by rw [hw3]; simp
  have hs2 := hk2.size
  clear hw3 hk2
  obtain ⟨g, hg⟩ : ∃ g, g = w2.heap.size := ⟨_, rfl⟩
  rw [← hg] at hsz3 hs2 hr3 ⊢
  have HR3 := Lib.hid hr3
  have HKA := Lib.hid hkA
  have HQ2 := Lib.hid hq2
  have HK23 := Lib.hid hk23
  have HU3 := Lib.hid (HU.out.keptNo hkA)
  have HV3 := Lib.hid (HV1.out.below hkA.toB)
  have HKW := Lib.hid (HK1.out.trans hkA)
  have HGE := Lib.hid hg
  clear hr3 hkA hq2 hk23 hg
  go_loopw [0, 9, 10, 11] (fun vb vg vt vi wr => ∃ (rest : Bs) (out : Outs) (told : Bs) (i : Nat), PcAt b b w3 g vb vg vt vi wr rest out told i) (fun vb _ _ vi _ => lenOf vb * 300 + (201 - (intOf vi).toNat))
  case atStart =>
    refine ⟨b, [], [], 0, ⟨HU3.out, fun k e => ?_, rfl, rfl, ⟨World.ownsRow_nil _ _ _ _, fun p hp => by cases hp⟩, .inl ⟨rfl, [], [], rfl, fed_nil, HR3.out, Nat.le_refl _⟩, Kept.refl _ _, by omega, .inl (by omega), by simp⟩⟩
    have := HL1.out k e; omega
  case round =>
    obtain ⟨rest, out, told, i, hby, hblk, rfl, rfl, houts, hst, hkp, hile, hlast, holen⟩ := hrel
    have hkw : Kept NoBlock w wr := HKW.out.trans' hkp (fun i hi h => by have := (HK1.out.size); omega)
    have HVW := Lib.hid (HV.out.below hkw.toB)
    obtain ⟨apb, capb, rfl, hcapb, _⟩ := hby.parts
    by_cases hend : rest = [] ∨ told ≠ []
    · obtain ⟨hd1, hd2⟩ := hst.done hend
      rw [← HS.out] at hd1 hd2
      have hkq : Kept NoBlock w2 wr := HK23.out.trans' hkp (fun i hi h => by have := HGE.out; omega)
      have HSM := Lib.hid (psame _ _ _ wr (houts.reqs hd1) (HQ2.out.keptNo hkq))
      have HKW2 := Lib.hid hkw
      subst hd2
      by_cases hre : rest = []
      · subst hre
        simp only [List.length_nil, strV] at *
        go_wp2_with (go_at_call 13; refine HSM.out.mono ?_; rintro e w4 ⟨rfl, q, rfl⟩)
        go_ret
        exact ⟨rfl, HKW2.out.drewN _⟩
      · have hto : S.2.2 ≠ [] := hend.resolve_left hre
        have hne : ¬ ((⟨S.2.2.toArray⟩ : ByteArray) = ⟨#[]⟩) := fun e => hto (by
          have := congrArg (fun b : ByteArray => b.data.toList) e
          simpa using this)
        have hne2 : (⟨S.2.2.toArray⟩ : ByteArray).toList.isEmpty = false := by
          rw [Go.ByteArray.toList_eq]
          cases hS2 : S.2.2 with
          | nil => exact absurd hS2 hto
          | cons a l => rfl
        have hL0 : 0 < rest.length := List.length_pos_iff.2 hre
        simp only [strV] at *
        generalize rest.length = L at *
        generalize (⟨S.2.2.toArray⟩ : ByteArray) = SF at *
        go_wp2_with (go_at_call 13; refine HSM.out.mono ?_; rintro e w4 ⟨rfl, q, rfl⟩)
        go_ret
        exact ⟨rfl, HKW2.out.drewN _⟩
    · have hr0 : rest ≠ [] := fun e => hend (.inl e)
      have ht0 : told = [] := Classical.byContradiction fun e => hend (.inr e)
      subst ht0
      rcases hst with ⟨_, X, k, hX, hF, hrd, hkX⟩ | ⟨h, _⟩
      rotate_left
      · exact absurd rfl h
      have hXb := congrArg List.length hX
      rw [List.length_append] at hXb
      have hbl2 := HBL.out
      obtain ⟨L, hL⟩ : ∃ L, L = rest.length := ⟨_, rfl⟩
      have hL0 : 0 < L := by rw [hL]; exact List.length_pos_iff.2 hr0
      rw [← hL] at hXb hcapb hby hblk ⊢
      have HLL := Lib.hid hL
      have hs0 : strV [] = .string ⟨#[]⟩ := rfl
      clear hL
      by_cases h1 : i < cs.length
      · obtain ⟨ad, rfl, hcell⟩ := RowV.cell (HC.out.keptNo hkw) (i := i) (v := bv cs[i]) (by rw [List.getElem?_map, List.getElem?_eq_getElem h1]; rfl)
        have hq255 : cs[i].toNat ≤ 255 := by have := cs[i].toNat_lt; omega
        simp only [bv] at hcell
        generalize cs[i].toNat = q at *
        by_cases h2 : i < 200
        · by_cases h3 : q < L
          · have HF := Lib.hid (pfeed g (.slice apb q capb) k (rest.take q) wr (HVW.out) hrd (hby.front q (by omega)) (by rw [List.length_take]; have := HLL.out; omega))
            have hnL : q ≤ L := by omega
            have HX := Lib.hid hX
            have HFD := Lib.hid hF
            have HBY := Lib.hid hby
            have HOU := Lib.hid houts
            have HKP := Lib.hid hkp
            have HBK := Lib.hid hblk
            have HKX := Lib.hid hkX
            have HR0 := Lib.hid hr0
            clear hX hF hrd hby houts hkp hkw hblk hkX hend hr0
            go_wp2_with fail
            all_goals (try (exfalso; omega))
            refine HF.out.mono ?_
            rintro e w5 ⟨hk5, va5, out5, rfl, ho5, hm5, hr5⟩
            have hkp := HKP.out
            have houts := HOU.out
            have ho5' : OutsAt w5 (g + 1) va5 out5 := ho5.lower (by have := hkp.size; omega)
            have ho0 : OutsAt w5 (g + 1) u9 out := houts.keptS hk5 (fun k hk e => by omega)
            obtain ⟨ap5, c5, rfl, _⟩ := ownsRow_form ho5'.1
            obtain ⟨apg, cg, rfl, _⟩ := ownsRow_form ho0.1
            have hl5 : out5.length ≤ 100000000 := by
              have := congrArg List.length hm5
              rw [List.length_map] at this
              have h2 := split_len (k ++ rest.take q)
              rw [List.length_append, List.length_take] at h2; have := HLL.out; have := HKX.out
              omega
            have hrv5 := RowV.holds (ownsRow_rowV ho5'.1).1
            have hsz5 : g + 1 ≤ w5.heap.size := by have := hkp.size; have := hk5.size; omega
            have HO0 := Lib.hid ho0
            have HO5 := Lib.hid ho5'
            have HRV := Lib.hid hrv5
            have HK5 := Lib.hid hk5
            have HR5 := Lib.hid hr5
            have HM5 := Lib.hid hm5
            clear hkp houts ho0 ho5' ho5 hrv5 hk5 hr5 hm5
            go_wp2_with (at_builtin; refine wpList_append_holds rfl _ _ 24 rfl (g + 1) 48 i0 (.slice none 0 0) 24 Tryd.underlying24 hi hz0 hz1 hz2 rfl (.slice apg out.length cg) out.length (out.map (·.1)) (by rfl) HO0.out.1 ap5 out5.length c5 (out5.map (·.1)) (by rfl) HRV.out.1 HRV.out.2.2.2 (outs_one out5 w5 (g + 1) HO5.out.2) (by unfold maxLen; omega) (by omega) hsz5 ?_; intro v6 w6 hown6 hgrow6; refine Hid.out ?_)
            have hkp := HKP.out
            have houts := HOU.out
            have ho0 := HO0.out
            have ho5' := HO5.out
            have hk5 := HK5.out
            have hr5 := HR5.out
            have hm5 := HM5.out
            have hby := HBY.out
            have hblk := HBK.out
            have hX := HX.out
            have hF := HFD.out
            have hkX := HKX.out
            have hr0 := HR0.out
            have hou6 := outs_append ho0 ho5' hgrow6 hown6
            have hrd6 := hr5.imp (fun h => And.intro h.1 (h.2.grown ho0.1 hgrow6 (by omega))) (fun h => And.intro h.1 (h.2.grown ho0.1 hgrow6 (by omega)))
            have hst6 := Stand.fed (b := b) (rest' := rest.drop q) (by rw [List.take_append_drop]; exact hX) hF hkX hrd6
            rw [← hm5, ← List.map_append] at hst6
            have hk6 : Kept (fun k => k = g) w3 w6 := (hkp.trans hk5).grown hgrow6 (fun k e hlt => by have := (ho0.1.lt k e).1; omega)
            have hk56 : Kept (fun k => g ≤ k) wr w6 := (hk5.mono (fun k _ h => by omega)).grown hgrow6 (fun k e _ => by have := (ho0.1.lt k e).1; omega)
            have hby6 := (hby.tail q hnL).kept hk56 (fun k e h => by have := hblk k (by rw [← e]; exact partAt_blk.symm); omega)
            have hol6 := hst6.len hbl2
            rw [List.length_map] at hol6
            have hi1 : i ≤ 200 := hlast.resolve_right hr0
            have HA1 := Lib.hid hby6
            have HA2 := Lib.hid hou6
            have HA3 := Lib.hid hst6
            have HA4 := Lib.hid hk6
            have HA5 := Lib.hid hol6
            clear hkp houts ho0 ho5' hk5 hr5 hm5 hby hX hF hkX hr0 hby6 hou6 hst6 hk6 hol6 hrd6 hk56
            refine Lib.hid ?_
            go_wp2
            go_roundw
            case rel =>
              try rw [show Option.map (fun x : Addr => x.add q) apb = partAt apb q capb from by unfold partAt; rw [if_neg (by omega)]]
              exact ⟨rest.drop q, out ++ out5, _, i + 1, HA1.out, fun k e => hblk k (by rw [← e]; exact partAt_blk.symm), rfl, by go_num, HA2.out, HA3.out, HA4.out, by omega, .inl (by omega), HA5.out⟩
            case measure => simp only [lenOf, intOf]; omega
          · have HF := Lib.hid (pfeed g (.slice apb L capb) k (rest.take L) wr (HVW.out) hrd (hby.front L (by omega)) (by rw [List.length_take]; have := HLL.out; omega))
            have hnL : L ≤ L := by omega
            have HX := Lib.hid hX
            have HFD := Lib.hid hF
            have HBY := Lib.hid hby
            have HOU := Lib.hid houts
            have HKP := Lib.hid hkp
            have HBK := Lib.hid hblk
            have HKX := Lib.hid hkX
            have HR0 := Lib.hid hr0
            clear hX hF hrd hby houts hkp hkw hblk hkX hend hr0
            go_wp2_with fail
            all_goals (try (exfalso; omega))
            refine HF.out.mono ?_
            rintro e w5 ⟨hk5, va5, out5, rfl, ho5, hm5, hr5⟩
            have hkp := HKP.out
            have houts := HOU.out
            have ho5' : OutsAt w5 (g + 1) va5 out5 := ho5.lower (by have := hkp.size; omega)
            have ho0 : OutsAt w5 (g + 1) u9 out := houts.keptS hk5 (fun k hk e => by omega)
            obtain ⟨ap5, c5, rfl, _⟩ := ownsRow_form ho5'.1
            obtain ⟨apg, cg, rfl, _⟩ := ownsRow_form ho0.1
            have hl5 : out5.length ≤ 100000000 := by
              have := congrArg List.length hm5
              rw [List.length_map] at this
              have h2 := split_len (k ++ rest.take L)
              rw [List.length_append, List.length_take] at h2; have := HLL.out; have := HKX.out
              omega
            have hrv5 := RowV.holds (ownsRow_rowV ho5'.1).1
            have hsz5 : g + 1 ≤ w5.heap.size := by have := hkp.size; have := hk5.size; omega
            have HO0 := Lib.hid ho0
            have HO5 := Lib.hid ho5'
            have HRV := Lib.hid hrv5
            have HK5 := Lib.hid hk5
            have HR5 := Lib.hid hr5
            have HM5 := Lib.hid hm5
            clear hkp houts ho0 ho5' ho5 hrv5 hk5 hr5 hm5
            go_wp2_with (at_builtin; refine wpList_append_holds rfl _ _ 24 rfl (g + 1) 48 i0 (.slice none 0 0) 24 Tryd.underlying24 hi hz0 hz1 hz2 rfl (.slice apg out.length cg) out.length (out.map (·.1)) (by rfl) HO0.out.1 ap5 out5.length c5 (out5.map (·.1)) (by rfl) HRV.out.1 HRV.out.2.2.2 (outs_one out5 w5 (g + 1) HO5.out.2) (by unfold maxLen; omega) (by omega) hsz5 ?_; intro v6 w6 hown6 hgrow6; refine Hid.out ?_)
            have hkp := HKP.out
            have houts := HOU.out
            have ho0 := HO0.out
            have ho5' := HO5.out
            have hk5 := HK5.out
            have hr5 := HR5.out
            have hm5 := HM5.out
            have hby := HBY.out
            have hblk := HBK.out
            have hX := HX.out
            have hF := HFD.out
            have hkX := HKX.out
            have hr0 := HR0.out
            have hou6 := outs_append ho0 ho5' hgrow6 hown6
            have hrd6 := hr5.imp (fun h => And.intro h.1 (h.2.grown ho0.1 hgrow6 (by omega))) (fun h => And.intro h.1 (h.2.grown ho0.1 hgrow6 (by omega)))
            have hst6 := Stand.fed (b := b) (rest' := rest.drop L) (by rw [List.take_append_drop]; exact hX) hF hkX hrd6
            rw [← hm5, ← List.map_append] at hst6
            have hk6 : Kept (fun k => k = g) w3 w6 := (hkp.trans hk5).grown hgrow6 (fun k e hlt => by have := (ho0.1.lt k e).1; omega)
            have hk56 : Kept (fun k => g ≤ k) wr w6 := (hk5.mono (fun k _ h => by omega)).grown hgrow6 (fun k e _ => by have := (ho0.1.lt k e).1; omega)
            have hby6 := (hby.tail L hnL).kept hk56 (fun k e h => by have := hblk k (by rw [← e]; exact partAt_blk.symm); omega)
            rw [Nat.sub_self] at hby6
            have hol6 := hst6.len hbl2
            rw [List.length_map] at hol6
            have hi1 : i ≤ 200 := hlast.resolve_right hr0
            have HA1 := Lib.hid hby6
            have HA2 := Lib.hid hou6
            have HA3 := Lib.hid hst6
            have HA4 := Lib.hid hk6
            have HA5 := Lib.hid hol6
            clear hkp houts ho0 ho5' hk5 hr5 hm5 hby hX hF hkX hr0 hby6 hou6 hst6 hk6 hol6 hrd6 hk56
            refine Lib.hid ?_
            go_wp2
            go_roundw
            case rel =>
              try rw [show Option.map (fun x : Addr => x.add L) apb = partAt apb L capb from by unfold partAt; rw [if_neg (by omega)]]
              exact ⟨rest.drop L, out ++ out5, _, i + 1, HA1.out, fun k e => hblk k (by rw [← e]; exact partAt_blk.symm), rfl, by go_num, HA2.out, HA3.out, HA4.out, by omega, .inr (List.drop_of_length_le (by have := HLL.out; omega)), HA5.out⟩
            case measure => simp only [lenOf, intOf]; omega
        · have HF := Lib.hid (pfeed g (.slice apb L capb) k (rest.take L) wr (HVW.out) hrd (hby.front L (by omega)) (by rw [List.length_take]; have := HLL.out; omega))
          have hnL : L ≤ L := by omega
          have HX := Lib.hid hX
          have HFD := Lib.hid hF
          have HBY := Lib.hid hby
          have HOU := Lib.hid houts
          have HKP := Lib.hid hkp
          have HBK := Lib.hid hblk
          have HKX := Lib.hid hkX
          have HR0 := Lib.hid hr0
          clear hX hF hrd hby houts hkp hkw hblk hkX hend hr0
          go_wp2_with fail
          all_goals (try (exfalso; omega))
          refine HF.out.mono ?_
          rintro e w5 ⟨hk5, va5, out5, rfl, ho5, hm5, hr5⟩
          have hkp := HKP.out
          have houts := HOU.out
          have ho5' : OutsAt w5 (g + 1) va5 out5 := ho5.lower (by have := hkp.size; omega)
          have ho0 : OutsAt w5 (g + 1) u9 out := houts.keptS hk5 (fun k hk e => by omega)
          obtain ⟨ap5, c5, rfl, _⟩ := ownsRow_form ho5'.1
          obtain ⟨apg, cg, rfl, _⟩ := ownsRow_form ho0.1
          have hl5 : out5.length ≤ 100000000 := by
            have := congrArg List.length hm5
            rw [List.length_map] at this
            have h2 := split_len (k ++ rest.take L)
            rw [List.length_append, List.length_take] at h2; have := HLL.out; have := HKX.out
            omega
          have hrv5 := RowV.holds (ownsRow_rowV ho5'.1).1
          have hsz5 : g + 1 ≤ w5.heap.size := by have := hkp.size; have := hk5.size; omega
          have HO0 := Lib.hid ho0
          have HO5 := Lib.hid ho5'
          have HRV := Lib.hid hrv5
          have HK5 := Lib.hid hk5
          have HR5 := Lib.hid hr5
          have HM5 := Lib.hid hm5
          clear hkp houts ho0 ho5' ho5 hrv5 hk5 hr5 hm5
          go_wp2_with (at_builtin; refine wpList_append_holds rfl _ _ 24 rfl (g + 1) 48 i0 (.slice none 0 0) 24 Tryd.underlying24 hi hz0 hz1 hz2 rfl (.slice apg out.length cg) out.length (out.map (·.1)) (by rfl) HO0.out.1 ap5 out5.length c5 (out5.map (·.1)) (by rfl) HRV.out.1 HRV.out.2.2.2 (outs_one out5 w5 (g + 1) HO5.out.2) (by unfold maxLen; omega) (by omega) hsz5 ?_; intro v6 w6 hown6 hgrow6; refine Hid.out ?_)
          have hkp := HKP.out
          have houts := HOU.out
          have ho0 := HO0.out
          have ho5' := HO5.out
          have hk5 := HK5.out
          have hr5 := HR5.out
          have hm5 := HM5.out
          have hby := HBY.out
          have hblk := HBK.out
          have hX := HX.out
          have hF := HFD.out
          have hkX := HKX.out
          have hr0 := HR0.out
          have hou6 := outs_append ho0 ho5' hgrow6 hown6
          have hrd6 := hr5.imp (fun h => And.intro h.1 (h.2.grown ho0.1 hgrow6 (by omega))) (fun h => And.intro h.1 (h.2.grown ho0.1 hgrow6 (by omega)))
          have hst6 := Stand.fed (b := b) (rest' := rest.drop L) (by rw [List.take_append_drop]; exact hX) hF hkX hrd6
          rw [← hm5, ← List.map_append] at hst6
          have hk6 : Kept (fun k => k = g) w3 w6 := (hkp.trans hk5).grown hgrow6 (fun k e hlt => by have := (ho0.1.lt k e).1; omega)
          have hk56 : Kept (fun k => g ≤ k) wr w6 := (hk5.mono (fun k _ h => by omega)).grown hgrow6 (fun k e _ => by have := (ho0.1.lt k e).1; omega)
          have hby6 := (hby.tail L hnL).kept hk56 (fun k e h => by have := hblk k (by rw [← e]; exact partAt_blk.symm); omega)
          rw [Nat.sub_self] at hby6
          have hol6 := hst6.len hbl2
          rw [List.length_map] at hol6
          have hi1 : i ≤ 200 := hlast.resolve_right hr0
          have HA1 := Lib.hid hby6
          have HA2 := Lib.hid hou6
          have HA3 := Lib.hid hst6
          have HA4 := Lib.hid hk6
          have HA5 := Lib.hid hol6
          clear hkp houts ho0 ho5' hk5 hr5 hm5 hby hX hF hkX hr0 hby6 hou6 hst6 hk6 hol6 hrd6 hk56
          refine Lib.hid ?_
          go_wp2
          go_roundw
          case rel =>
            try rw [show Option.map (fun x : Addr => x.add L) apb = partAt apb L capb from by unfold partAt; rw [if_neg (by omega)]]
            exact ⟨rest.drop L, out ++ out5, _, i + 1, HA1.out, fun k e => hblk k (by rw [← e]; exact partAt_blk.symm), rfl, by go_num, HA2.out, HA3.out, HA4.out, by omega, .inr (List.drop_of_length_le (by have := HLL.out; omega)), HA5.out⟩
          case measure => simp only [lenOf, intOf]; omega
      · have HF := Lib.hid (pfeed g (.slice apb L capb) k (rest.take L) wr (HVW.out) hrd (hby.front L (by omega)) (by rw [List.length_take]; have := HLL.out; omega))
        have hnL : L ≤ L := by omega
        have HX := Lib.hid hX
        have HFD := Lib.hid hF
        have HBY := Lib.hid hby
        have HOU := Lib.hid houts
        have HKP := Lib.hid hkp
        have HBK := Lib.hid hblk
        have HKX := Lib.hid hkX
        have HR0 := Lib.hid hr0
        clear hX hF hrd hby houts hkp hkw hblk hkX hend hr0
        go_wp2_with fail
        all_goals (try (exfalso; omega))
        refine HF.out.mono ?_
        rintro e w5 ⟨hk5, va5, out5, rfl, ho5, hm5, hr5⟩
        have hkp := HKP.out
        have houts := HOU.out
        have ho5' : OutsAt w5 (g + 1) va5 out5 := ho5.lower (by have := hkp.size; omega)
        have ho0 : OutsAt w5 (g + 1) u9 out := houts.keptS hk5 (fun k hk e => by omega)
        obtain ⟨ap5, c5, rfl, _⟩ := ownsRow_form ho5'.1
        obtain ⟨apg, cg, rfl, _⟩ := ownsRow_form ho0.1
        have hl5 : out5.length ≤ 100000000 := by
          have := congrArg List.length hm5
          rw [List.length_map] at this
          have h2 := split_len (k ++ rest.take L)
          rw [List.length_append, List.length_take] at h2; have := HLL.out; have := HKX.out
          omega
        have hrv5 := RowV.holds (ownsRow_rowV ho5'.1).1
        have hsz5 : g + 1 ≤ w5.heap.size := by have := hkp.size; have := hk5.size; omega
        have HO0 := Lib.hid ho0
        have HO5 := Lib.hid ho5'
        have HRV := Lib.hid hrv5
        have HK5 := Lib.hid hk5
        have HR5 := Lib.hid hr5
        have HM5 := Lib.hid hm5
        clear hkp houts ho0 ho5' ho5 hrv5 hk5 hr5 hm5
        go_wp2_with (at_builtin; refine wpList_append_holds rfl _ _ 24 rfl (g + 1) 48 i0 (.slice none 0 0) 24 Tryd.underlying24 hi hz0 hz1 hz2 rfl (.slice apg out.length cg) out.length (out.map (·.1)) (by rfl) HO0.out.1 ap5 out5.length c5 (out5.map (·.1)) (by rfl) HRV.out.1 HRV.out.2.2.2 (outs_one out5 w5 (g + 1) HO5.out.2) (by unfold maxLen; omega) (by omega) hsz5 ?_; intro v6 w6 hown6 hgrow6; refine Hid.out ?_)
        have hkp := HKP.out
        have houts := HOU.out
        have ho0 := HO0.out
        have ho5' := HO5.out
        have hk5 := HK5.out
        have hr5 := HR5.out
        have hm5 := HM5.out
        have hby := HBY.out
        have hblk := HBK.out
        have hX := HX.out
        have hF := HFD.out
        have hkX := HKX.out
        have hr0 := HR0.out
        have hou6 := outs_append ho0 ho5' hgrow6 hown6
        have hrd6 := hr5.imp (fun h => And.intro h.1 (h.2.grown ho0.1 hgrow6 (by omega))) (fun h => And.intro h.1 (h.2.grown ho0.1 hgrow6 (by omega)))
        have hst6 := Stand.fed (b := b) (rest' := rest.drop L) (by rw [List.take_append_drop]; exact hX) hF hkX hrd6
        rw [← hm5, ← List.map_append] at hst6
        have hk6 : Kept (fun k => k = g) w3 w6 := (hkp.trans hk5).grown hgrow6 (fun k e hlt => by have := (ho0.1.lt k e).1; omega)
        have hk56 : Kept (fun k => g ≤ k) wr w6 := (hk5.mono (fun k _ h => by omega)).grown hgrow6 (fun k e _ => by have := (ho0.1.lt k e).1; omega)
        have hby6 := (hby.tail L hnL).kept hk56 (fun k e h => by have := hblk k (by rw [← e]; exact partAt_blk.symm); omega)
        rw [Nat.sub_self] at hby6
        have hol6 := hst6.len hbl2
        rw [List.length_map] at hol6
        have hi1 : i ≤ 200 := hlast.resolve_right hr0
        have HA1 := Lib.hid hby6
        have HA2 := Lib.hid hou6
        have HA3 := Lib.hid hst6
        have HA4 := Lib.hid hk6
        have HA5 := Lib.hid hol6
        clear hkp houts ho0 ho5' hk5 hr5 hm5 hby hX hF hkX hr0 hby6 hou6 hst6 hk6 hol6 hrd6 hk56
        refine Lib.hid ?_
        go_wp2
        go_roundw
        case rel =>
          try rw [show Option.map (fun x : Addr => x.add L) apb = partAt apb L capb from by unfold partAt; rw [if_neg (by omega)]]
          exact ⟨rest.drop L, out ++ out5, _, i + 1, HA1.out, fun k e => hblk k (by rw [← e]; exact partAt_blk.symm), rfl, by go_num, HA2.out, HA3.out, HA4.out, by omega, .inr (List.drop_of_length_le (by have := HLL.out; omega)), HA5.out⟩
        case measure => simp only [lenOf, intOf]; omega
