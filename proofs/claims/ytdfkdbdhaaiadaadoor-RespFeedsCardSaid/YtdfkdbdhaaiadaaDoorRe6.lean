/- A reader of requests: quoted parts. -/
import Derived.Test.YtdfkdbdhaaiadaaDoorRe5
import Derived.Deep.RegionHeld3
import Derived.Deep.AppendLies
import Derived.Deep.DrawnRows
namespace Go.Proofs.YtdfkdbdhaaiadaaDoor
open Go.RowKit
attribute [local go_sem] fold_part fold_some fold_some' partAt_zero
attribute [local go_sem ↓] Go.wp_at_zero Go.wp_at_succ

theorem byteInfo : (Tryd.prog.info? 5).map (fun i => (i.zero, i.size, i.bytes)) = some (some (.int .u8 0), 1, 1) := by kernel_rfl

/-- A row of bytes that the call itself has made: v holds xs; it lies from block 'base' on. -/
def OwnB (w : World) (base : Nat) (v : Value) (xs : Bs) : Prop := w.ownsRow base 5 1 v xs.length (xs.map bv)

theorem OwnB.nil (w : World) (base : Nat) : OwnB w base (.slice none 0 0) [] := ⟨rfl, .inl ⟨rfl, rfl⟩⟩

theorem OwnB.kept2 {w w' : World} {base : Nat} {v : Value} {xs : Bs} (h : OwnB w base v xs) (hk : Kept NoBlock w w') : OwnB w' base v xs := by
  refine ⟨h.1, ?_⟩
  rcases h.2 with h' | ⟨g, cap, cur, e1, e2, e3, rest⟩
  · exact .inl h'
  · exact .inr ⟨g, cap, cur, e1, e2, hk.heap e3 (fun h => h), rest⟩
theorem OwnB.alloc {w : World} {base : Nat} {v : Value} {xs : Bs} (h : OwnB w base v xs) (o : Obj) : OwnB (w.alloc o) base v xs := h.kept2 ((Kept.refl _ w).alloc o)
theorem OwnB.drew {w : World} {base : Nat} {v : Value} {xs : Bs} (h : OwnB w base v xs) : OwnB w.drew base v xs := h
theorem OwnB.drewN {w : World} {base : Nat} {v : Value} {xs : Bs} (h : OwnB w base v xs) (n : Nat) : OwnB (w.drewN n) base v xs := h

/-- What the step law leaves of a row to which was appended. -/
structure AppB (base : Nat) (v : Value) (zs : Bs) (w : World) (v' : Value) (w' : World) : Prop where
  own : OwnB w' base v' zs
  grow : w.grownBy w' v.ownBlock

theorem step_appB {ops : Array Oper} {o : Oper} {a : Act} {w : World} {K : Act → World → Prop} {Q : Exit → Act → World → Prop} {E : Prop} (hgd : o.guard = none) (s x : Operand)
    (ho : o.op = .call { callee := .builtin .append, args := #[s, x], argTypes := #[22, 22] })
    (base : Nat) (v : Value) (xs : Bs) (hs : a.eval s = v) (hown : OwnB w base v xs)
    (b : Nat) (c : UInt8) (hx : a.eval x = .slice (some ⟨b, 0, none⟩) 1 1) (hnews : w.heap[b]? = some (.cells #[.int .u8 c.toNat] 5 (0, 0)))
    (hlen : xs.length ≤ 100000000) (hbase : base ≤ w.heap.size)
    (h : ∀ g cap w', AppB base v (xs ++ [c]) w (.slice (some ⟨g, 0, none⟩) (xs.length + 1) cap) w' → K (a.put o.dst (.slice (some ⟨g, 0, none⟩) (xs.length + 1) cap)) w') :
    if Region.wanted o (yielded ops a.tmps) = true then Oper.wp Tryd.prog o a w K Q else E := by
  obtain ⟨i0, hi, hz0, hz1, hz2⟩ := info_parts byteInfo
  refine step_append_lies _ hgd s x 22 ho base 5 i0 (.int .u8 0) 1 1 Tryd.underlying22 hi hz0 hz1 hz2 rfl (by omega) v xs.length (xs.map bv) hs hown ⟨b, 0, none⟩ 1 1 [.int .u8 c.toNat] hx rfl
    (World.news_of_block (cs := #[.int .u8 c.toNat]) hnews) (by simp [Value.oneCell']) (by omega) (by unfold maxLen; omega) (by omega) hbase _ rfl ?_
  intro g cap w' h1 h2 _ _
  refine h g cap w' ⟨?_, h2⟩
  unfold OwnB
  rw [List.length_append, List.map_append]
  exact h1

theorem AppB.kept {base : Nat} {v : Value} {xs zs : Bs} {w0 w : World} {v' : Value} {w' : World} (h : AppB base v zs w v' w') (hown : OwnB w base v xs) (hb : w0.heap.size ≤ base) {S : Nat → Prop} (hk : Kept S w0 w) : Kept S w0 w' :=
  hk.grown h.grow (fun k e hlt => by have := (hown.lt k e).1; omega)

/-- What a call leaves that hands back a row of its own and a part of what it was given, or panics. -/
def PartEnd (M : Option (Bs × Bs)) (B : Option Nat) (f : Bs) (w : World) (e : Ending) (w' : World) : Prop :=
  Kept NoBlock w w' ∧ match M with
  | none => e = .panicked (faultE f)
  | some (p, t) => ∃ v v', e = .returned (.tuple #[v, v']) ∧ OwnB w' w.heap.size v p ∧ BytesV w' v' t ∧ vblk v' = B

def lenOf (v : Value) : Nat := match v with | .slice _ n _ => n | _ => 0

theorem quotedA_B (xs r : Bs) : quotedA 39 xs (92 :: 39 :: r) = quotedA 39 (xs ++ [39]) r := by rw [quotedA]; simp
theorem quotedA_C (xs : Bs) (x : UInt8) (r : Bs) : quotedA 34 xs (92 :: x :: r) = quotedA 34 (xs ++ [(escaped x r).1]) ((x :: r).drop (escaped x r).2) := by rw [quotedA]; simp
theorem quotedA_D (q : UInt8) (xs : Bs) (c : UInt8) (r : Bs) (h0 : c ≠ q) (h1 : ¬ (c = 92 ∧ q = 39 ∧ r.head? = some 39)) (h2 : ¬ (c = 92 ∧ q = 34 ∧ r ≠ [])) : quotedA q xs (c :: r) = quotedA q (xs ++ [c]) r := by
  rw [quotedA, if_neg h0, if_neg h1, if_neg h2]

theorem escaped_le (c : UInt8) (r : Bs) : 1 ≤ (escaped c r).2 ∧ (escaped c r).2 ≤ r.length + 1 := by
  unfold escaped
  split
  · rename_i v h
    split at h
    · rcases r with _ | ⟨x, _ | ⟨y, r⟩⟩
      · cases h
      · cases h
      · simp
    · cases h
  · simp

theorem quotedA_len (k : Nat) : ∀ (q : UInt8) (s xs p t : Bs), s.length ≤ k → quotedA q xs s = some (p, t) → p.length + t.length < xs.length + s.length ∧ t.length < s.length := by
  induction k with
  | zero =>
    intro q s xs p t hs h
    have : s = [] := List.eq_nil_of_length_eq_zero (by omega)
    subst this
    rw [quotedA] at h; cases h
  | succ k ih =>
    intro q s xs p t hs h
    cases s with
    | nil => rw [quotedA] at h; cases h
    | cons c r =>
      rw [quotedA] at h
      simp only [List.length_cons] at hs ⊢
      split at h
      · injection h with h; injection h with h1 h2; subst h1; subst h2; omega
      · split at h
        · have := ih _ _ _ _ _ (by rw [List.length_drop]; omega) h
          rw [List.length_append, List.length_drop] at this
          simp at this; omega
        · split at h
          · rename_i h3
            have h4 := escaped_le (r.headD 0) r.tail
            have h5 : r.tail.length + 1 = r.length := by
              rcases r with _ | ⟨a, r⟩
              · exact absurd rfl h3.2.2
              · simp
            have := ih _ _ _ _ _ (by rw [List.length_drop]; omega) h
            rw [List.length_append, List.length_drop] at this
            simp at this; omega
          · have := ih _ _ _ _ _ (by omega) h
            rw [List.length_append] at this
            simp at this; omega

set_option maxRecDepth 100000 in
set_option maxHeartbeats 6400000 in
theorem pquoted (v : Value) (B : Option Nat) (q : UInt8) (qi : Int) (hqi : qi = q.toNat) (s : Bs) (w : World) (hV : Vs w) (h : BytesV w v s) (hB : vblk v = B) (hs : s.length ≤ 100000000) (hq : q = 34 ∨ q = 39) :
    Calls Tryd.prog 65 #[v, .int .u8 qi] w (PartEnd (quotedA q [] s) B fQuo w) := by
  have hv0 := h
  generalize hM0 : quotedA q [] s = M
  have HQ := Lib.hid hqi
  clear hqi
  obtain ⟨ap0, cap0, rfl, _, _⟩ := h.parts
  clear h
  go_enter Tryd.func65, Tryd.ntmps65
  go_wp2
  go_loopw [0, 6] (fun vs vw wr => ∃ (l xs : Bs), BytesV w vs l ∧ vblk vs = B ∧ OwnB wr w.heap.size vw xs ∧ quotedA q xs l = M ∧ xs.length + l.length ≤ 100000000 ∧ Kept NoBlock w wr) (fun vs _ _ => lenOf vs)
  case atStart => exact ⟨s, [], hv0, hB, OwnB.nil _ _, hM0, by simpa using hs, Kept.refl _ _⟩
  case round =>
    obtain ⟨l, xs, hvs, hvB, hown, hM, hlen, hk⟩ := hrel
    clear hs hB hv0 hM0
    have hvr := hvs.keptNo hk
    cases l with
    | nil =>
      obtain ⟨ap, cap, rfl, _, _⟩ := hvr.parts
      obtain rfl : none = M := by rw [← hM, quotedA]
      go_wp2
      exact ⟨rfl, hk, rfl⟩
    | cons c r =>
      obtain ⟨ad, cap, rfl, hcap⟩ := hvr.first
      by_cases hcq : c = q
      · have c0 : wr.cell? ad = some (.int .u8 qi) := by rw [HQ.out, ← hcq]; exact hvr.at0
        obtain rfl : some (xs, r) = M := by rw [← hM, hcq, quotedA]; simp
        have HT := Lib.hid (hvr.tail 1 (by omega))
        have HO := Lib.hid hown
        have HK := Lib.hid hk
        have HB := Lib.hid hvB
        clear hM hown hk hvs hvr hvB hlen hV hq hcq
        generalize hn : r.length = n at *
        clear hn
        go_wp2
        go_quiet (fail)
        go_wp2
        go_ret2
        exact ⟨HK.out.drewN _, _, _, rfl, HO.out, HT.out, partAt_blk.trans HB.out⟩
      · have hne : ¬ (c.toNat : Int) = qi := fun e => hcq (UInt8.toNat_inj.1 (by have := HQ.out; omega))
        have step : (c = 92 ∧ q = 39 ∧ r.head? = some 39) ∨ (c = 92 ∧ q = 34 ∧ r ≠ []) ∨ (¬ (c = 92 ∧ q = 39 ∧ r.head? = some 39) ∧ ¬ (c = 92 ∧ q = 34 ∧ r ≠ [])) := by
          by_cases h1 : c = 92 ∧ q = 39 ∧ r.head? = some 39
          · exact .inl h1
          · by_cases h2 : c = 92 ∧ q = 34 ∧ r ≠ []
            · exact .inr (.inl h2)
            · exact .inr (.inr ⟨h1, h2⟩)
        rcases step with ⟨rfl, rfl, hr⟩ | ⟨rfl, rfl, hr⟩ | ⟨hs1, hs2⟩
        · obtain ⟨r', rfl⟩ : ∃ r', r = 39 :: r' := by
            cases r with
            | nil => cases hr
            | cons a r => simp at hr; subst hr; exact ⟨r, rfl⟩
          obtain rfl : qi = 39 := HQ.out
          have hM2 : quotedA 39 (xs ++ [39]) r' = M := by rw [← hM, quotedA_B]
          have c0 : wr.cell? ad = some (.int .u8 92) := hvr.at0
          have c1 : wr.cell? ⟨ad.block, ad.off + 1, none⟩ = some (.int .u8 39) := hvr.atS 1 (by omega) (c := 39) rfl
          have HM := Lib.hid hM2
          have HV := Lib.hid hvs
          have HB := Lib.hid hvB
          have HL := Lib.hid hlen
          have hx1 : xs.length ≤ 100000000 := by omega
          clear hM hM2 hvs hvB hvr hne hcq hr hq hV hlen
          simp only [List.length_cons] at *
          generalize hn : r'.length = n at *
          have hb2 : (2 : Int) ≤ (n : Int) + 1 + 1 := by omega
          have hb3 : (n : Int) + 1 + 1 ≤ (cap : Int) := by omega
          go_wp2
          go_region_held3 (fun _ => True) (go_keep) ((refine step_appB rfl _ _ (by rfl) w.heap.size u6 xs (by rfl) ((hown.alloc _).drew) wr.heap.size 39 (by rfl) (heap_alloc_new wr _) (by omega) (by have := hk.size; simp; omega) ?_; intro g cap' w1 happ))
          go_wp2
          go_roundw
          case rel =>
            refine ⟨r', xs ++ [39], HV.out.tail 2 (by omega), partAt_blk.trans HB.out, happ.own, HM.out, ?_, happ.kept ((hown.alloc _).drew) (Nat.le_refl _) ((hk.alloc _).drew)⟩
            have := HL.out
            simp only [List.length_append, List.length_cons, List.length_nil, List.length_drop] at this ⊢; omega
          case measure => simp only [lenOf]; omega
        · obtain ⟨x, r', rfl⟩ : ∃ x r', r = x :: r' := by
            cases r with
            | nil => exact absurd rfl hr
            | cons a r => exact ⟨a, r, rfl⟩
          obtain rfl : qi = 34 := HQ.out
          have hM2 : quotedA 34 (xs ++ [(escaped x r').1]) ((x :: r').drop (escaped x r').2) = M := by rw [← hM, quotedA_C]
          obtain ⟨hek1, hek2⟩ := escaped_le x r'
          have c0 : wr.cell? ad = some (.int .u8 92) := hvr.at0
          have hV0 := hV.below hk.toB
          have ht1 : BytesV wr (.slice (partAt (some ad) 1 cap) ((x :: r').length + 1 - 1) (cap - 1)) (x :: r') := hvr.tail 1 (by omega)
          have hn1 : r'.length ≤ 100000000 := by simp only [List.length_cons] at hlen; omega
          have hdrop : ∀ k : Nat, List.drop (1 + k) ((92 : UInt8) :: x :: r') = List.drop k (x :: r') := fun k => by rw [Nat.add_comm, List.drop_succ_cons]
          have hesc := pescaped _ x r' wr hV0 ht1 (by simp only [List.length_cons] at hlen; omega)
          rw [Nat.add_sub_cancel] at hesc
          have HM := Lib.hid hM2
          have HV := Lib.hid hvs
          have HB := Lib.hid hvB
          have HL := Lib.hid hlen
          have hx1 : xs.length ≤ 100000000 := by omega
          clear hM hM2 hvs hvB hvr hne hcq hr hq hV hV0 hlen ht1
          simp only [List.length_cons] at *
          generalize (escaped x r').1 = ec at *
          generalize (escaped x r').2 = ek at *
          generalize hn : r'.length = n at *
          have hw1 : IntKind.i64.wrap (1 + (ek : Int)) = 1 + (ek : Int) := IntWalk.i64_in _ (by omega)
          have hw2 : (0 : Int) ≤ 1 + (ek : Int) := by omega
          have hw3 : (1 + (ek : Int)).toNat = 1 + ek := by omega
          have hw4 : 1 + (ek : Int) ≤ (n : Int) + 1 + 1 := by omega
          have hb3 : (n : Int) + 1 + 1 ≤ (cap : Int) := by omega
          have H1 := Lib.hid hw1
          have H3 := Lib.hid hw3
          clear hw1 hw3
          go_wp2_with fail
          refine hesc.mono ?_
          rintro e w2 ⟨rfl, hk2⟩
          have hown2 : OwnB w2 w.heap.size u6 xs := hown.kept2 hk2
          have hk3 := hk.trans hk2
          have hw1 := H1.out
          have hw3 := H3.out
          clear hesc c0 hown hk hk2
          go_wp2
          go_region_held3 (fun _ => True) (go_keep) ((refine step_appB rfl _ _ (by rfl) w.heap.size u6 xs (by rfl) ((hown2.alloc _).drew) w2.heap.size ec (by rfl) (heap_alloc_new w2 _) (by omega) (by have := hk3.size; simp; omega) ?_; intro g cap' w1 happ))
          go_wp2
          go_roundw
          case rel =>
            refine ⟨(x :: r').drop ek, xs ++ [ec], by rw [← hdrop]; exact HV.out.tail (1 + ek) (by omega), partAt_blk.trans HB.out, happ.own, HM.out, ?_, happ.kept ((hown2.alloc _).drew) (Nat.le_refl _) ((hk3.alloc _).drew)⟩
            have := HL.out
            simp only [List.length_append, List.length_cons, List.length_nil, List.length_drop] at this ⊢; omega
          case measure => simp only [lenOf]; omega
        · have hM2 : quotedA q (xs ++ [c]) r = M := by rw [← hM, quotedA_D q xs c r hcq hs1 hs2]
          by_cases hc : c = 92
          · subst hc
            have c0 : wr.cell? ad = some (.int .u8 92) := hvr.at0
            cases r with
            | nil =>
              have HM := Lib.hid hM2
              have HV := Lib.hid hvs
              have HB := Lib.hid hvB
              have HL := Lib.hid hlen
              have hx1 : xs.length ≤ 100000000 := by omega
              clear hM hM2 hvs hvB hvr hne hs1 hs2 hV hlen
              rcases hq with rfl | rfl
              · obtain rfl : qi = 34 := HQ.out
                clear hcq
                go_wp2
                go_region_held3 (fun _ => True) (go_keep) ((refine step_appB rfl _ _ (by rfl) w.heap.size u6 xs (by rfl) ((hown.alloc _).drew) wr.heap.size 92 (by rfl) (heap_alloc_new wr _) (by omega) (by have := hk.size; simp; omega) ?_; intro g cap' w1 happ))
                go_wp2
                go_roundw
                case rel =>
                  refine ⟨[], xs ++ [92], HV.out.tail 1 (by omega), partAt_blk.trans HB.out, happ.own, HM.out, ?_, happ.kept ((hown.alloc _).drew) (Nat.le_refl _) ((hk.alloc _).drew)⟩
                  have := HL.out
                  simp only [List.length_append, List.length_cons, List.length_nil, List.length_drop] at this ⊢; omega
                case measure => simp only [lenOf]; omega
              · obtain rfl : qi = 39 := HQ.out
                clear hcq
                go_wp2
                go_region_held3 (fun _ => True) (go_keep) ((refine step_appB rfl _ _ (by rfl) w.heap.size u6 xs (by rfl) ((hown.alloc _).drew) wr.heap.size 92 (by rfl) (heap_alloc_new wr _) (by omega) (by have := hk.size; simp; omega) ?_; intro g cap' w1 happ))
                go_wp2
                go_roundw
                case rel =>
                  refine ⟨[], xs ++ [92], HV.out.tail 1 (by omega), partAt_blk.trans HB.out, happ.own, HM.out, ?_, happ.kept ((hown.alloc _).drew) (Nat.le_refl _) ((hk.alloc _).drew)⟩
                  have := HL.out
                  simp only [List.length_append, List.length_cons, List.length_nil, List.length_drop] at this ⊢; omega
                case measure => simp only [lenOf]; omega
            | cons x r' =>
              have hq39 : q = 39 := by
                rcases hq with h | h
                · exact absurd ⟨rfl, h, by simp⟩ hs2
                · exact h
              obtain rfl : qi = 39 := by rw [HQ.out, hq39]; rfl
              have hx39 : ¬ (x.toNat : Int) = 39 := fun e => hs1 ⟨rfl, hq39, by simp; exact UInt8.toNat_inj.1 (by show x.toNat = 39; omega)⟩
              have c1 : wr.cell? ⟨ad.block, ad.off + 1, none⟩ = some (.int .u8 x.toNat) := hvr.atS 1 (by omega) (c := x) rfl
              have HM := Lib.hid hM2
              have HV := Lib.hid hvs
              have HB := Lib.hid hvB
              have HL := Lib.hid hlen
              have hx1 : xs.length ≤ 100000000 := by omega
              clear hM hM2 hvs hvB hvr hne hcq hs1 hs2 hq hV hlen hq39
              simp only [List.length_cons] at *
              generalize hn : r'.length = n at *
              have hb2 : (1 : Int) ≤ (n : Int) + 1 + 1 := by omega
              have hb3 : (n : Int) + 1 + 1 ≤ (cap : Int) := by omega
              go_wp2
              go_region_held3 (fun _ => True) (go_keep) ((refine step_appB rfl _ _ (by rfl) w.heap.size u6 xs (by rfl) ((hown.alloc _).drew) wr.heap.size 92 (by rfl) (heap_alloc_new wr _) (by omega) (by have := hk.size; simp; omega) ?_; intro g cap' w1 happ))
              go_wp2
              go_roundw
              case rel =>
                refine ⟨x :: r', xs ++ [92], HV.out.tail 1 (by omega), partAt_blk.trans HB.out, happ.own, HM.out, ?_, happ.kept ((hown.alloc _).drew) (Nat.le_refl _) ((hk.alloc _).drew)⟩
                have := HL.out
                simp only [List.length_append, List.length_cons, List.length_nil, List.length_drop] at this ⊢; omega
              case measure => simp only [lenOf]; omega
          · have hc92 : ¬ (c.toNat : Int) = 92 := fun e => hc (UInt8.toNat_inj.1 (by show c.toNat = 92; omega))
            have c0 := hvr.at0
            have HM := Lib.hid hM2
            have HV := Lib.hid hvs
            have HB := Lib.hid hvB
            have HL := Lib.hid hlen
            have hx1 : xs.length ≤ 100000000 := by omega
            clear hM hM2 hvs hvB hvr hcq hs1 hs2 hq hV hlen hc
            generalize hn : r.length = n at *
            have hb2 : (1 : Int) ≤ (n : Int) + 1 := by omega
            have hb3 : (n : Int) + 1 ≤ (cap : Int) := by omega
            go_wp2
            go_region_held3 (fun _ => True) (go_keep) ((refine step_appB rfl _ _ (by rfl) w.heap.size u6 xs (by rfl) ((hown.alloc _).drew) wr.heap.size c (by rfl) (heap_alloc_new wr _) (by omega) (by have := hk.size; simp; omega) ?_; intro g cap' w1 happ))
            go_wp2
            go_roundw
            case rel =>
              refine ⟨r, xs ++ [c], HV.out.tail 1 (by omega), partAt_blk.trans HB.out, happ.own, HM.out, ?_, happ.kept ((hown.alloc _).drew) (Nat.le_refl _) ((hk.alloc _).drew)⟩
              have := HL.out
              simp only [List.length_append, List.length_cons, List.length_nil, List.length_drop] at this ⊢; omega
            case measure => simp only [lenOf]; omega
end Go.Proofs.YtdfkdbdhaaiadaaDoor
