/- Merged: The law of scripts read of texts. -/
import Derived.Test.YtdinkdmkbfbjbaaGreatDoorZSa
import Derived.Test.YtdinkdmkbfbjbaaGreatDoorRq2z
set_option linter.all false
namespace Go.Proofs.YtdinkdmkbfbjbaaGreatDoor
open Go.RowKit
attribute [local go_sem] fold_part fold_some fold_some' partAt_zero

def outC : Except Nat (Conf × List Deed) → Conf | .ok (c, _) => c | .error _ => zeroConf
def outD : Except Nat (Conf × List Deed) → List Deed | .ok (_, ds) => ds | .error _ => []
def outK : Except Nat (Conf × List Deed) → Nat | .ok _ => 0 | .error k => k
def outE : Except Nat (Conf × List Deed) → Int | .ok _ => 0 | .error _ => 251

def OutEnd (C : Conf) (D : List Deed) (K : Nat) (E : Int) (w : World) (e : Ending) (w' : World) : Prop :=
  Kept NoBlock w w' ∧ ∃ (v : Value) (ps : List (Deed × Value)), e = .returned (.tuple #[confV C, v, .int .i64 K, .int .i64 E]) ∧ ps.map (·.1) = D ∧ DeedsV w' v ps ∧ BsV w' ps
theorem ReadEnd.form {M : Except Nat (Conf × List Deed)} {w w' : World} {e : Ending} (h : ReadEnd M w e w') :
    OutEnd (outC M) (outD M) (outK M) (outE M) w e w' := by
  rcases M with k | ⟨c, ds⟩
  · exact ⟨h.1, .slice none 0 0, [], h.2, rfl, (OwnD.nil w' 0).deeds, fun p hp => by cases hp⟩
  · obtain ⟨hk, v, ps, h1, h2, h3, h4⟩ := h
    exact ⟨hk, v, ps, h1, h2, h3, h4⟩

theorem goOver_count : ∀ (L : List Bs) (n : Nat) (ds es : List Deed), goOver n L ds = .ok es → es.length = ds.length + L.length
  | [], n, ds, es, h => by rw [goOver] at h; cases h; rfl
  | l :: L, n, ds, es, h => by
    rw [goOver] at h
    cases hp : parseP l with
    | none => rw [hp] at h; cases h
    | some d =>
      rw [hp] at h
      have := goOver_count L (n + 1) (ds ++ [d]) es h
      rw [this, List.length_append, List.length_singleton, List.length_cons]
      omega
theorem outD_len (s : Bs) : (outD (readD s)).length ≤ s.length := by
  cases h : readD s with
  | error k => exact Nat.zero_le _
  | ok p =>
    obtain ⟨c, ds⟩ := p
    have hl := linesF_many s []
    unfold readD at h
    unfold linesS at h
    cases h1 : (linesF [] s).1 with
    | nil => rw [h1] at h; cases h
    | cons l ls =>
      rw [h1] at h hl
      simp only at h
      cases h2 : settingsP l with
      | none => rw [h2] at h; cases h
      | some c' =>
        rw [h2] at h
        simp only at h
        cases h3 : goOver 1 ls [] with
        | error k => rw [h3] at h; cases h
        | ok es =>
          rw [h3] at h
          simp only at h
          split at h
          · cases h
            have := goOver_count ls 1 [] _ h3
            simp only [List.length_nil, List.length_cons] at this hl
            show ds.length ≤ s.length
            rw [this]
            omega
          · cases h

set_option maxRecDepth 100000 in
set_option maxHeartbeats 3200000 in
theorem law_reads (s : Bs) (hs : s.length ≤ 9223372036854775807) (w : World) (hV : Vs w) (hM : Mx w) :
    Calls Tryz.prog 3 #[.string ⟨s.toArray⟩] w fun e w' => e = .returned (.bool true) ∧ Kept NoBlock w w' := by
  have hX8 : (s.take 8000).length ≤ 8000 := by rw [List.length_take]; omega
  have cp := fun X (hX : X = (⟨(s.take 8000).toArray⟩ : ByteArray)) W (hk : Kept NoBlock w W) => show Calls Tryz.prog 4 #[.string X] W (OutEnd (outC (readD (s.take 8000))) (outD (readD (s.take 8000))) (outK (readD (s.take 8000))) (outE (readD (s.take 8000))) W) from hX ▸ (pread (s.take 8000) (by omega) (short_small (by omega)) W (hV.below hk.toB) (hM.kept hk)).mono (fun _ _ h => h.form)
  have cr := fun X (hX : X = (⟨(s.take 8000).toArray⟩ : ByteArray)) W (hk : Kept NoBlock w W) => show Calls Tryz.prog 5 #[.string X] W (OutEnd (outC (readD (s.take 8000))) (outD (readD (s.take 8000))) (outK (readD (s.take 8000))) (outE (readD (s.take 8000))) W) from hX ▸ (rread (s.take 8000) hX8 W (hV.below hk.toB)).mono (fun _ _ h => h.form)
  have cal := fun W (hk : Kept NoBlock w W) => lalive W (hV.below hk.toB) (hM.kept hk)
  have hol := outD_len (s.take 8000)
  obtain ⟨S, hS⟩ : ∃ S : ByteArray, S = ⟨s.toArray⟩ := ⟨_, rfl⟩
  have hSz := str_size hS
  have hcut : ∀ n, S.extract 0 n = ⟨(s.take n).toArray⟩ := fun n => by
    rw [hS, str_part]
    rfl
  have hlong : 8000 < S.size → S.extract 0 8000 = ⟨(s.take 8000).toArray⟩ := fun _ => hcut 8000
  have hshort : ¬ (8000 < S.size) → S = ⟨(s.take 8000).toArray⟩ := fun h => by rw [List.take_of_length_le (by omega)]; exact hS
  rw [← hS]
  generalize readD (s.take 8000) = M at *
  generalize outC M = C at *
  generalize outD M = D at *
  generalize outK M = K at *
  generalize outE M = E at *
  have csa := fun v u ps qs W (h1 : DeedsV W v ps) (b1 : BsV W ps) (h2 : DeedsV W u qs) (b2 : BsV W qs) (hp : ps.map (·.1) = D) (hq : qs.map (·.1) = D) =>
    rsameall v u ps qs W h1 b1 h2 b2 (by have := congrArg List.length hp; rw [List.length_map] at this; omega) (by have := congrArg List.length hq; rw [List.length_map] at this; omega)
  have hSI : S.size ≤ 9223372036854775807 := by omega
  have CP := Lib.hid cp
  have CR := Lib.hid cr
  have CAL := Lib.hid cal
  have CSA := Lib.hid csa
  have HLO := Lib.hid hlong
  have HSH := Lib.hid hshort
  clear cp cr cal csa hlong hshort hcut hol hX8 hS hSz hV hM hs
  go_enter Tryz.func3, Tryz.ntmps3
  by_cases hlt : 8000 < S.size
  · have hX := HLO.out hlt
    have HX := Lib.hid hX
    clear HLO HSH hX
    go_wp2_with fail
    generalize S.extract 0 8000 = X at *
    refine (CP.out X HX.out w (Kept.refl _ _)).mono ?_
    rintro e w2 ⟨hk, v, ps, rfl, hm, hd, hb⟩
    have hka := Kept.allocd w2 (.cells #[.int .i64 C.c0, .int .i64 C.c1, .int .i64 C.c2, .int .i64 C.c3, .int .i64 C.c4] 27)
    have HK2 := Lib.hid (hk.trans hka)
    have HG2 := Lib.hid (heap_alloc_new w2 (.cells #[.int .i64 C.c0, .int .i64 C.c1, .int .i64 C.c2, .int .i64 C.c3, .int .i64 C.c4] 27))
    have HD2 := Lib.hid (hd.kept hka)
    have HB2 := Lib.hid (hb.kept hka)
    have HM2 := Lib.hid hm
    have hform := hd
    obtain ⟨ap, cap, rfl, _⟩ := hform
    generalize ps.length = n1 at *
    clear hk hka hd hb hm
    unfold confV
    go_wp2_with fail
    generalize w2.alloc (.cells #[.int .i64 C.c0, .int .i64 C.c1, .int .i64 C.c2, .int .i64 C.c3, .int .i64 C.c4] 27) = W2 at *
    generalize w2.heap.size = gc at *
    refine (CR.out X HX.out W2 HK2.out).mono ?_
    rintro e w3 ⟨hk, u, qs, rfl, hm, hd, hb⟩
    have hka := Kept.allocd w3 (.cells #[.int .i64 C.c0, .int .i64 C.c1, .int .i64 C.c2, .int .i64 C.c3, .int .i64 C.c4] 27)
    have hk3 := hk.trans hka
    have HK3 := Lib.hid (HK2.out.trans hk3)
    have HG3 := Lib.hid (heap_alloc_new w3 (.cells #[.int .i64 C.c0, .int .i64 C.c1, .int .i64 C.c2, .int .i64 C.c3, .int .i64 C.c4] 27))
    have HC3 := Lib.hid (hk3.heap HG2.out (fun h => h))
    have HD3 := Lib.hid (HD2.out.kept hk3)
    have HB3 := Lib.hid (HB2.out.kept hk3)
    have HD4 := Lib.hid (hd.kept hka)
    have HB4 := Lib.hid (hb.kept hka)
    have HM3 := Lib.hid hm
    have hform := hd
    obtain ⟨aq, caq, rfl, _⟩ := hform
    generalize qs.length = n2 at *
    clear hk hka hd hb hm hk3 HD2 HB2 HG2
    unfold confV
    obtain ⟨c0, c1, c2, c3, c4⟩ := blk5 HC3.out
    obtain ⟨d0, d1, d2, d3, d4⟩ := blk5 HG3.out
    have hsa := CSA.out _ _ ps qs _ HD3.out HB3.out HD4.out HB4.out HM2.out HM3.out
    rw [HM2.out, HM3.out, sameL_refl] at hsa
    have HS := Lib.hid hsa
    clear hsa
    go_wp2_with fail
    refine HS.out.mono ?_
    rintro e w8 ⟨rfl, hk8⟩
    have HK8 := Lib.hid (HK3.out.trans hk8)
    clear hk8 c0 c1 c2 c3 c4 d0 d1 d2 d3 d4
    go_wp2_with fail
    refine (CAL.out _ HK8.out).mono ?_
    rintro e w9 ⟨rfl, hk9⟩
    go_wp2_with fail
    go_ret
    exact ⟨rfl, HK8.out.trans hk9⟩
  · have hX := HSH.out hlt
    have HX := Lib.hid hX
    clear HLO HSH hX
    go_wp2_with fail
    generalize S = X at *
    refine (CP.out X HX.out w (Kept.refl _ _)).mono ?_
    rintro e w2 ⟨hk, v, ps, rfl, hm, hd, hb⟩
    have hka := Kept.allocd w2 (.cells #[.int .i64 C.c0, .int .i64 C.c1, .int .i64 C.c2, .int .i64 C.c3, .int .i64 C.c4] 27)
    have HK2 := Lib.hid (hk.trans hka)
    have HG2 := Lib.hid (heap_alloc_new w2 (.cells #[.int .i64 C.c0, .int .i64 C.c1, .int .i64 C.c2, .int .i64 C.c3, .int .i64 C.c4] 27))
    have HD2 := Lib.hid (hd.kept hka)
    have HB2 := Lib.hid (hb.kept hka)
    have HM2 := Lib.hid hm
    have hform := hd
    obtain ⟨ap, cap, rfl, _⟩ := hform
    generalize ps.length = n1 at *
    clear hk hka hd hb hm
    unfold confV
    go_wp2_with fail
    generalize w2.alloc (.cells #[.int .i64 C.c0, .int .i64 C.c1, .int .i64 C.c2, .int .i64 C.c3, .int .i64 C.c4] 27) = W2 at *
    generalize w2.heap.size = gc at *
    refine (CR.out X HX.out W2 HK2.out).mono ?_
    rintro e w3 ⟨hk, u, qs, rfl, hm, hd, hb⟩
    have hka := Kept.allocd w3 (.cells #[.int .i64 C.c0, .int .i64 C.c1, .int .i64 C.c2, .int .i64 C.c3, .int .i64 C.c4] 27)
    have hk3 := hk.trans hka
    have HK3 := Lib.hid (HK2.out.trans hk3)
    have HG3 := Lib.hid (heap_alloc_new w3 (.cells #[.int .i64 C.c0, .int .i64 C.c1, .int .i64 C.c2, .int .i64 C.c3, .int .i64 C.c4] 27))
    have HC3 := Lib.hid (hk3.heap HG2.out (fun h => h))
    have HD3 := Lib.hid (HD2.out.kept hk3)
    have HB3 := Lib.hid (HB2.out.kept hk3)
    have HD4 := Lib.hid (hd.kept hka)
    have HB4 := Lib.hid (hb.kept hka)
    have HM3 := Lib.hid hm
    have hform := hd
    obtain ⟨aq, caq, rfl, _⟩ := hform
    generalize qs.length = n2 at *
    clear hk hka hd hb hm hk3 HD2 HB2 HG2
    unfold confV
    obtain ⟨c0, c1, c2, c3, c4⟩ := blk5 HC3.out
    obtain ⟨d0, d1, d2, d3, d4⟩ := blk5 HG3.out
    have hsa := CSA.out _ _ ps qs _ HD3.out HB3.out HD4.out HB4.out HM2.out HM3.out
    rw [HM2.out, HM3.out, sameL_refl] at hsa
    have HS := Lib.hid hsa
    clear hsa
    go_wp2_with fail
    refine HS.out.mono ?_
    rintro e w8 ⟨rfl, hk8⟩
    have HK8 := Lib.hid (HK3.out.trans hk8)
    clear hk8 c0 c1 c2 c3 c4 d0 d1 d2 d3 d4
    go_wp2_with fail
    refine (CAL.out _ HK8.out).mono ?_
    rintro e w9 ⟨rfl, hk9⟩
    go_wp2_with fail
    go_ret
    exact ⟨rfl, HK8.out.trans hk9⟩
end Go.Proofs.YtdinkdmkbfbjbaaGreatDoor
