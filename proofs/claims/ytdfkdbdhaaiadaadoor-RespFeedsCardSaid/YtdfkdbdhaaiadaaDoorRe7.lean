/- A reader of requests: words. -/
import Derived.Test.YtdfkdbdhaaiadaaDoorRe6
import Derived.Test.YtdfkdbdhaaiadaaDoorPlan
namespace Go.Proofs.YtdfkdbdhaaiadaaDoor
open Go.RowKit
attribute [local go_sem] fold_part fold_some fold_some' partAt_zero
attribute [local go_sem ↓] Go.wp_at_zero Go.wp_at_succ

theorem wordA_nil (xs : Bs) : wordA xs [] = some (xs, []) := by rw [wordA]
theorem wordA_blank {xs : Bs} {c : UInt8} {r : Bs} (h : blank c = true) : wordA xs (c :: r) = some (xs, c :: r) := by rw [wordA, if_pos h]
theorem wordA_plain {xs : Bs} {c : UInt8} {r : Bs} (h : blank c = false) (h1 : c ≠ 34) (h2 : c ≠ 39) : wordA xs (c :: r) = wordA (xs ++ [c]) r := by
  rw [wordA, if_neg (by simp [h]), if_pos ⟨h1, h2⟩]
theorem wordA_quo {xs : Bs} {c : UInt8} {r : Bs} (h : blank c = false) (h1 : c = 34 ∨ c = 39) : wordA xs (c :: r) = match quotedA c [] r with | none => none | some (p, t) => if t ≠ [] ∧ blank (t.headD 0) = false then none else some (xs ++ p, t) := by
  rw [wordA, if_neg (by simp [h]), if_neg (by rintro ⟨a, b⟩; rcases h1 with h1 | h1 <;> contradiction)]
  rcases quotedA c [] r with _ | ⟨p, t⟩ <;> rfl

/-- What lies in old blocks lay so before. -/
theorem BytesV.back {w w' : World} {v : Value} {l : Bs} (h : BytesV w' v l) (hk : Kept NoBlock w w') (hb : ∀ b, vblk v = some b → b < w.heap.size) : BytesV w v l := by
  obtain ⟨ap, cap, rfl, h1, h2, h3⟩ := h
  refine ⟨ap, cap, rfl, ⟨h1.1, fun hn => ?_⟩, h2, h3⟩
  obtain ⟨ad, rfl, hc⟩ := h1.2 hn
  refine ⟨ad, rfl, fun j u hj => ?_⟩
  have hcj := hc j u hj
  have hbl : (ad.add j).block = ad.block := by unfold Addr.add; split <;> rfl
  rw [World.cell?_of_block (w := w) (hk.block _ (by rw [hbl]; exact hb _ rfl) (fun h => h))] at hcj
  exact hcj

theorem OwnB.bytes {w : World} {base : Nat} {v : Value} {xs : Bs} (h : OwnB w base v xs) : BytesV w v xs := by
  obtain ⟨ap, cap, rfl, hf⟩ := ownsRow_form h
  have hH := ownsRow_holds h
  refine RowV.mk hH ?_ ?_
  · rcases Nat.eq_zero_or_pos xs.length with h0 | h0
    · omega
    · obtain ⟨_, _, _, _, _, h, _⟩ := hf h0; exact h
  · intro e
    subst e
    rcases h.2 with ⟨h1, _⟩ | ⟨g, cap', cur, h1, _⟩
    · simp at h1; exact h1.2
    · cases h1

theorem wpList_appB {w : World} {ops : Array Oper} {rest : List Oper} {o : Oper} {a : Act} {Q : Exit → Act → World → Prop} (hgd : o.guard = none) (s x : Operand)
    (ho : o.op = .call { callee := .builtin .append, args := #[s, x], argTypes := #[22, 22] })
    (base : Nat) (v : Value) (xs : Bs) (hs : a.eval s = v) (hown : OwnB w base v xs) (u : Value) (p : Bs) (hx : a.eval x = u) (hu : BytesV w u p) (hlen : xs.length + p.length ≤ 100000000) (hbase : base ≤ w.heap.size)
    (h : ∀ v' w', AppB base v (xs ++ p) w v' w' → wpList Tryd.prog ops Q rest (a.put o.dst v') w') : wpList Tryd.prog ops Q (o :: rest) a w := by
  obtain ⟨i0, hi, hz0, hz1, hz2⟩ := info_parts byteInfo
  obtain ⟨ap, cap, rfl, h1, h2⟩ := hu.parts
  obtain ⟨hH, hl, _, _⟩ := RowV.holds hu
  refine wpList_append_holds hgd s x 22 ho base 5 i0 (.int .u8 0) 1 Tryd.underlying22 hi hz0 hz1 hz2 rfl v xs.length (xs.map bv) hs hown ap p.length cap (p.map bv) hx hH h2 (bv_one _) (by unfold maxLen; omega) (by omega) hbase ?_
  intro v' w' hr hg
  refine h v' w' ⟨?_, hg⟩
  unfold OwnB
  rw [List.length_append, List.map_append]
  exact hr

theorem AppB.cell_eq {base : Nat} {v : Value} {xs zs : Bs} {w : World} {v' : Value} {w' : World} (h : AppB base v zs w v' w') (hown : OwnB w base v xs) (a : Addr) (ha : a.block < base) (hb : base ≤ w.heap.size) : w'.cell? a = w.cell? a :=
  h.grow.cell_far a (by omega) (fun e => by have := (hown.lt _ e.symm).1; omega)

theorem Vs.drewN {w : World} (h : Vs w) (n : Nat) : Vs (w.drewN n) := h.below ⟨rfl, rfl, rfl, Nat.le_refl _, fun _ _ => rfl⟩

theorem ownB_made (w : World) : OwnB (w.alloc (.cells #[] 5)) w.heap.size (.slice (some ⟨w.heap.size, 0, none⟩) 0 0) [] :=
  World.ownsRow_made (e := 5) (size := 1) w #[] 0 (Nat.le_refl _) (by unfold maxLen; omega) rfl

set_option maxRecDepth 100000 in
set_option maxHeartbeats 6400000 in
theorem pword (v : Value) (B : Option Nat) (s : Bs) (w : World) (hV : Vs w) (h : BytesV w v s) (hB : vblk v = B) (hBw : ∀ b, B = some b → b < w.heap.size) (hs : s.length ≤ 100000000) :
    Calls Tryd.prog 56 #[v] w (PartEnd (wordA [] s) B fQuo w) := by
  have hv0 := h
  generalize hM0 : wordA [] s = M
  obtain ⟨ap0, cap0, rfl, _, _⟩ := h.parts
  clear h
  have hmade := ownB_made w
  have hk0 : Kept NoBlock w (w.alloc (.cells #[] 5)) := (Kept.refl _ w).alloc _
  go_enter Tryd.func56, Tryd.ntmps56
  go_wp2
  go_loopw [0, 4] (fun vs vw wr => ∃ (l xs : Bs), BytesV w vs l ∧ vblk vs = B ∧ OwnB wr w.heap.size vw xs ∧ wordA xs l = M ∧ xs.length + l.length ≤ 100000000 ∧ Kept NoBlock w wr) (fun vs _ _ => lenOf vs)
  case atStart => exact ⟨s, [], hv0, hB, hmade, hM0, by simpa using hs, hk0⟩
  case round =>
    obtain ⟨l, xs, hvs, hvB, hown, hM, hlen, hk⟩ := hrel
    clear hs hB hv0 hM0 hmade hk0
    have hvr := hvs.keptNo hk
    cases l with
    | nil =>
      obtain ⟨ap, cap, rfl, _, _⟩ := hvr.parts
      obtain rfl : some (xs, []) = M := by rw [← hM, wordA_nil]
      have HO := Lib.hid hown
      have HT := Lib.hid hvr
      have HK := Lib.hid hk
      have HB := Lib.hid hvB
      clear hown hk hvs hvr hvB hlen hV hM hBw
      go_wp2
      go_ret2
      exact ⟨HK.out, _, _, rfl, HO.out, HT.out, HB.out⟩
    | cons c r =>
      obtain ⟨ad, cap, rfl, hcap⟩ := hvr.first
      have c0 := hvr.at0
      have hpb := fun W => pblank c W
      have hadl : ad.block < w.heap.size := hBw ad.block (by rw [← hvB]; rfl)
      cases hbl : blank c with
      | true =>
        obtain rfl : some (xs, c :: r) = M := by rw [← hM, wordA_blank hbl]
        rw [hbl] at hpb
        have HO := Lib.hid hown
        have HT := Lib.hid hvr
        have HK := Lib.hid hk
        have HB := Lib.hid hvB
        clear hown hk hvs hvr hvB hlen hV hM hBw hbl
        generalize hn : r.length = n at *
        clear hn
        go_wp2_with (go_at_call 55; refine (hpb _).mono ?_; rintro e w' ⟨rfl, rfl⟩)
        go_ret2
        exact ⟨HK.out, _, _, rfl, HO.out, HT.out, HB.out⟩
      | false =>
        rw [hbl] at hpb
        by_cases hq : c = 34 ∨ c = 39
        · have hM2 := hM
          rw [wordA_quo hbl hq] at hM2
          have hqi : ∃ qi : Int, qi = c.toNat := ⟨_, rfl⟩
          obtain ⟨qi, hqi⟩ := hqi
          have hcall := fun n => pquoted (.slice (partAt (some ad) 1 cap) (r.length + 1 - 1) (cap - 1)) B c qi hqi r (wr.drewN n) ((hV.below hk.toB).drewN n) (BytesV.tail (w := wr.drewN n) hvr 1 (by omega)) (partAt_blk.trans hvB) (by simp only [List.length_cons] at hlen; omega) hq
          have hqlen := fun p t => quotedA_len r.length c r [] p t (Nat.le_refl _)
          have hkr := hk.size
          rw [Nat.add_sub_cancel] at hcall
          rw [← hqi] at c0 hpb
          have HL := Lib.hid hlen
          have HO := Lib.hid hown
          have HK := Lib.hid hk
          have hx1 : xs.length ≤ 100000000 := by omega
          have hq2 : qi = 34 ∨ qi = 39 := by rcases hq with h | h <;> (subst h; rw [hqi]; first | exact .inl rfl | exact .inr rfl)
          generalize quotedA c [] r = Z at *
          clear hM hvs hvB hvr hlen hown hk hq hbl hqi
          generalize hn : r.length = n at *
          have HN := Lib.hid hn
          have hb2 : (1 : Int) ≤ (n : Int) + 1 := by omega
          have hb3 : (n : Int) + 1 ≤ (cap : Int) := by omega
          clear hn
          have hcalls : ∃ HC : True, True := ⟨trivial, trivial⟩
          clear hcalls
          have HC := Lib.hid hcall
          have HZ := Lib.hid hqlen
          have HM2 := Lib.hid hM2
          have HBw := Lib.hid hBw
          have HVs := Lib.hid hV
          clear hcall hqlen hM2 hBw hV
          rcases hq2 with rfl | rfl
          all_goals
            go_wp2_with (go_at_call 55; refine (hpb _).mono ?_; rintro e w' ⟨rfl, rfl⟩)
            refine wp_plan 0 [1, 2, 3, 4] 5 [] [6, 7, 8, 9, 10] (by kernel_rfl) (by kernel_rfl) ?_
            simp only [wpPlan, pick, List.filterMap_cons, List.filterMap_nil, List.getElem?_cons_succ, List.getElem?_cons_zero]
            repeat (quiet_step (fail))
            refine wpQuiet_nil ?_
            rintro _ ⟨n1, rfl⟩
            go_wp2_with fail
            refine (HC.out n1).mono ?_
            rintro e w2 ⟨hk2, hend⟩
            have hkw2 : Kept NoBlock w w2 := (HK.out.drewN n1).trans hk2
            rcases Z with _ | ⟨p, t⟩
            · obtain rfl : none = M := HM2.out
              obtain rfl : e = .panicked (faultE fQuo) := hend
              exact ⟨rfl, hkw2, rfl⟩
            · obtain ⟨v2, v3, rfl, hown2, hb4, hblk3⟩ := hend
              have hB4 : BytesV w v3 t := hb4.back hkw2 (fun b e => HBw.out b (by rw [← hblk3]; exact e))
              obtain ⟨hp1, hp2⟩ := HZ.out p t rfl
              obtain ⟨ap4, cap4, rfl, _, _⟩ := hB4.parts
              have hown3 : OwnB w2 w.heap.size u4 xs := (HO.out.drewN n1).kept2 hk2
              have hbt2 := hown2.bytes
              have hsz2 : w.heap.size ≤ w2.heap.size := hkw2.size
              have HB4 := Lib.hid hB4
              have HK2 := Lib.hid hkw2
              have HBL := Lib.hid hblk3
              have hb5 : t.length ≤ 100000000 := by have := HL.out; have := HN.out; simp only [List.length_cons] at *; omega
              have hb6 : xs.length + p.length + t.length ≤ 100000000 := by have := HL.out; have := HN.out; simp only [List.length_cons, List.length_nil] at *; omega
              have hb7 : t.length < n := by have := HN.out; omega
              clear hp1 hp2 hB4 hb4 hblk3 hkw2 hk2 hown2 c0
              go_wp2
              repeat (quiet_step (fail))
              refine wpQuiet_nil ?_
              rintro _ ⟨n2, rfl⟩
              go_wp2_with (at_builtin; refine wpList_appB rfl _ _ rfl w.heap.size u4 xs rfl (hown3.drewN n2) _ p rfl hbt2 (by omega) hsz2 ?_; intro v5 w3 happ; refine Hid.out ?_)
              refine Lib.hid ?_
              have hk3 : Kept NoBlock w w3 := happ.kept (hown3.drewN n2) (Nat.le_refl _) (HK2.out.drewN n2)
              have hB5 := HB4.out.keptNo hk3
              have HK3 := Lib.hid hk3
              have HAP := Lib.hid happ.own
              clear happ hown3 hbt2 hk3
              rcases t with _ | ⟨c2, t2⟩
              · obtain rfl : some (xs ++ p, []) = M := by rw [← HM2.out]; simp
                clear hB5 HM2 HC HZ
                simp only [List.length_nil] at *
                go_wp2
                go_roundw
                case rel => exact ⟨[], xs ++ p, HB4.out, HBL.out, HAP.out, wordA_nil _, by simp only [List.length_append, List.length_nil]; omega, HK3.out⟩
                case measure => simp only [lenOf]; omega
              · obtain ⟨ad2, cap2, e2, hcap2⟩ := hB5.first
                cases e2
                have d0 := hB5.at0
                have hpb2 := fun W => pblank c2 W
                have HL2 := Lib.hid hb6
                clear hb6
                simp only [List.length_cons] at *
                generalize hn2 : t2.length = n2 at *
                have HN2 := Lib.hid hn2
                clear hn2
                cases hbl2 : blank c2 with
                | true =>
                  obtain rfl : some (xs ++ p, c2 :: t2) = M := by rw [← HM2.out]; simp [hbl2]
                  rw [hbl2] at hpb2
                  clear hB5 HM2 HC HZ
                  have HBL2 := Lib.hid hbl2
                  clear hbl2
                  go_wp2_with (go_at_call 55; refine (hpb2 _).mono ?_; rintro e w' ⟨rfl, rfl⟩)
                  go_roundw
                  case rel => exact ⟨c2 :: t2, xs ++ p, HB4.out, HBL.out, HAP.out, wordA_blank HBL2.out, by have h8 := HL2.out; have h9 := HN2.out; simp only [List.length_append, List.length_cons] at h8 ⊢; omega, HK3.out⟩
                  case measure => simp only [lenOf]; omega
                | false =>
                  obtain rfl : none = M := by rw [← HM2.out]; simp [hbl2]
                  rw [hbl2] at hpb2
                  clear hB5 HM2 HC HZ hbl2
                  go_wp2_with (go_at_call 55; refine (hpb2 _).mono ?_; rintro e w' ⟨rfl, rfl⟩)
                  exact ⟨rfl, HK3.out, rfl⟩
        · have h34 : c ≠ 34 := fun e => hq (.inl e)
          have h39 : c ≠ 39 := fun e => hq (.inr e)
          have h34' : ¬ (c.toNat : Int) = 34 := fun e => h34 (UInt8.toNat_inj.1 (by show c.toNat = 34; omega))
          have h39' : ¬ (c.toNat : Int) = 39 := fun e => h39 (UInt8.toNat_inj.1 (by show c.toNat = 39; omega))
          have hn34 : ((c.toNat : Int) != 34) = true := by simpa using h34'
          have hn39 : ((c.toNat : Int) != 39) = true := by simpa using h39'
          have hM2 : wordA (xs ++ [c]) r = M := by rw [← hM, wordA_plain hbl h34 h39]
          have HM := Lib.hid hM2
          have HV := Lib.hid hvs
          have HB := Lib.hid hvB
          have HL := Lib.hid hlen
          have hx1 : xs.length ≤ 100000000 := by omega
          clear hM hM2 hvs hvB hvr hV hlen hBw hbl hq h34 h39
          generalize hn : r.length = n at *
          have hb2 : (1 : Int) ≤ (n : Int) + 1 := by omega
          have hb3 : (n : Int) + 1 ≤ (cap : Int) := by omega
          have hks := hk.size
          go_wp2_with (go_at_call 55; refine (hpb _).mono ?_; rintro e w' ⟨rfl, rfl⟩)
          go_region_held3 (fun w' => w'.cell? ad = some (.int .u8 c.toNat)) (first | go_keep | (rw [happ.cell_eq ((hown.alloc _).drew) ad hadl (by simp; omega)]; assumption)) ((refine step_appB rfl _ _ (by rfl) w.heap.size u4 xs (by rfl) ((hown.alloc _).drew) wr.heap.size c (by rfl) (heap_alloc_new wr _) (by omega) (by simp; omega) ?_; intro g cap' w1 happ))
          go_wp2
          go_roundw
          case rel =>
            refine ⟨r, xs ++ [c], HV.out.tail 1 (by omega), partAt_blk.trans HB.out, happ.own, HM.out, ?_, happ.kept ((hown.alloc _).drew) (Nat.le_refl _) ((hk.alloc _).drew)⟩
            have := HL.out
            simp only [List.length_append, List.length_cons, List.length_nil, List.length_drop] at this ⊢; omega
          case measure => simp only [lenOf]; omega
end Go.Proofs.YtdfkdbdhaaiadaaDoor
