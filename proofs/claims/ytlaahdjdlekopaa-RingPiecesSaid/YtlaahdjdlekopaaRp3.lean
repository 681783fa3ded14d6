/- 'RingPieces' returns true. -/
import Derived.Test.YtlaahdjdlekopaaRp2
namespace Go.Proofs.Ytlaahdjdlekopaa
open Go.RowKit

theorem pieces_bad (size : Int) (ao : Option Addr) (no co : Nat) (k mm : Int) (w : World) (hs : ¬ (1 ≤ size ∧ size ≤ 16777216)) :
    Calls Try.prog 7 #[.int .i64 size, .slice ao no co, .int .i64 k, .int .i64 mm] w fun e w' => e = .returned (.bool true) ∧ Below w.heap.size w w' := by
  have hn := rnew_bad size 9 w (fun h => hs ⟨h.1, h.2.1⟩)
  have hn2 := fnew_bad size 9 w (fun h => hs ⟨h.1, h.2.1⟩)
  clear hs
  go_enter Try.func7, Try.ntmps7
  go_wp2_with (first
    | (go_at_call 9; refine hn.mono ?_; rintro e w1 ⟨rfl, rfl⟩)
    | (go_at_call 17; refine hn2.mono ?_; rintro e w1 ⟨rfl, rfl⟩)
    | (go_at_call 10; refine (alive_true _).mono ?_; rintro e wz ⟨rfl, hkz⟩))
  go_ret
  exact ⟨rfl, hkz.below (Nat.le_refl _) (fun _ h => h.elim)⟩

theorem count_eq {c m len : Nat} (hm : 1 ≤ m) (h0 : 0 < len) (h1 : len ≤ c * m) (h2 : c * m < len + m) : (len - 1) / m + 1 = c := by
  have hc : 1 ≤ c := by
    rcases Nat.eq_zero_or_pos c with h | h
    · subst h; omega
    · exact h
  obtain ⟨d, rfl⟩ : ∃ d, c = d + 1 := ⟨c - 1, by omega⟩
  rw [Nat.succ_mul] at h1 h2
  have : (len - 1) / m = d := by
    rw [Nat.div_eq_iff (by omega)]
    omega
  omega

set_option maxRecDepth 8000 in
set_option maxHeartbeats 6400000 in
theorem pieces_good (size : Int) (ao : Option Addr) (no co : Nat) (k mm : Int) (w : World) (hs : 1 ≤ size ∧ size ≤ 16777216) (hmb : mm ≤ 9223372036854775807) (hO : OpsR w ao no) :
    Calls Try.prog 7 #[.int .i64 size, .slice ao no co, .int .i64 k, .int .i64 mm] w fun e w' => e = .returned (.bool true) ∧ Below w.heap.size w w' := by
  have HO := Lib.hid hO
  have HMB := Lib.hid hmb
  have hs1 := hs.1
  have hs2 := hs.2
  clear hO hs hmb
  go_enter Try.func7, Try.ntmps7
  go_wp2_with fail
  refine (nnew size 9 w w (Below.refl _ _) hs1 hs2 (by omega)).mono ?_
  rintro e w1 ⟨rfl, hI1, _⟩
  go_wp2_with fail
  refine (fnew size 9 w1 hs1 hs2 (by omega)).mono ?_
  rintro e w2 ⟨rfl, hr2, hk2⟩
  have bo := bo_new size 9 w w1 hI1 hr2 hk2
  generalize (⟨9, 0, 0, 0, 0, size.toNat, []⟩ : RS) = s0 at *
  generalize w1.heap.size = h at *
  generalize hg : w.heap.size = g at *
  have HG := Lib.hid hg
  clear hI1 hr2 hk2 hs1 hs2 hg
  go_wp2_with fail
  go_loopw [13] (fun vi wr => ∃ (i : Nat) (R q : Option Nat) (s : RS), vi = .int .i64 i ∧ i ≤ 100 ∧ Bo w wr g R s h q s) (fun vi _ => 101 - (intOf vi).toNat)
  case atStart => exact ⟨0, none, none, s0, rfl, by omega, bo⟩
  case round =>
    obtain ⟨i, R, q, s, rfl, hi, bo⟩ := hrel
    by_cases hlt : i < no ∧ i < 100
    · obtain ⟨hj1, hj2⟩ := hlt
      obtain ⟨ad, kd, oi, ok, bp, m, c, b, rfl, o0123, hb, hmc, hz⟩ := HO.out i hj1
      obtain ⟨o0, o1, o2, o3⟩ := o0123
      have hB := bo.inn.below
      have p0 : wr.cell? (ad.add (i * 4)) = some (.int .i64 kd) := (hB.cell (cell_lt o0)).trans o0
      have p1 : wr.cell? ⟨(ad.add (i * 4)).block, (ad.add (i * 4)).off + 1, none⟩ = some (.slice bp m c) := (hB.cell (cell_lt o1)).trans o1
      have p2 : wr.cell? ⟨(ad.add (i * 4)).block, (ad.add (i * 4)).off + 2, none⟩ = some (.int .u64 oi) := (hB.cell (cell_lt o2)).trans o2
      have p3 : wr.cell? ⟨(ad.add (i * 4)).block, (ad.add (i * 4)).off + 3, none⟩ = some (.int .i64 ok) := (hB.cell (cell_lt o3)).trans o3
      have HA := Lib.hid (act_any bo bp m c b kd oi ok hb hmc hz)
      clear o0 o1 o2 o3 hB hb hmc hz bo
      go_wp2_with fail
      refine (Hid.out HA).mono ?_
      rintro e w4 ⟨rfl, R4, q4, bo4⟩
      clear HA p0 p1 p2 p3
      generalize s.act kd b oi ok = s4 at *
      go_wp2_with fail
      go_roundw
      case rel => exact ⟨i + 1, R4, q4, s4, by go_num, by omega, bo4⟩
      case measure => simp [intOf]; omega
    · have hend : ¬ (i < no) ∨ ¬ (i < 100) := by omega
      rcases hend with h1 | h1
      · skip
        go_wp2_with fail
        refine (ffrom h q s k wr bo.rr).mono ?_
        rintro e w3 ⟨ay, ny, cy, rfl, hy3, hk3⟩
        have bo3 := bo.keptNo hk3
        have hBS := bo3.inn.below
        clear bo hk3
        by_cases hk : k < s.first ∨ s.off < k
        · have hfe : s.fromE k = 191 := by rw [RS.fromE, if_pos hk]
          have hfl : s.fromL k = [] := by rw [RS.fromL, if_pos hk]
          have HP := Lib.hid (rpieces_out g R s k mm w3 bo3.inn.rg hk)
          rw [hfl] at hy3
          obtain rfl : 0 = ny := hy3.1
          rw [hfe]
          clear hk hfe hfl hy3
          by_cases hm : 0 < mm
          all_goals go_wp2_with fail
          all_goals refine (Hid.out HP).mono ?_
          all_goals rintro e w4 ⟨rfl, hk4⟩
          all_goals go_wp2_with fail
          all_goals refine (alive_true _).mono ?_
          all_goals rintro e wz ⟨rfl, hkz⟩
          all_goals go_wp2
          all_goals go_ret
          all_goals exact ⟨rfl, hBS.trans ((hk4.trans hkz).below hBS.size (fun _ h => h.elim))⟩
        · have hfe : s.fromE k = 0 := by rw [RS.fromE, if_neg hk]
          rw [hfe]
          by_cases hm1 : mm < 1
          · have HP := Lib.hid (rpieces_short g R s k mm w3 bo3.inn.rg hm1 hk)
            have hm2 : ¬ (0 < mm) := by omega
            clear hk hfe hy3
            go_wp2_with fail
            refine (Hid.out HP).mono ?_
            rintro e w4 ⟨rfl, hk4⟩
            go_wp2_with fail
            refine (alive_true _).mono ?_
            rintro e wz ⟨rfl, hkz⟩
            go_wp2
            go_ret
            exact ⟨rfl, hBS.trans ((hk4.trans hkz).below hBS.size (fun _ h => h.elim))⟩
          · have hfl : s.fromL k = s.L.drop (k - s.first).toNat := by rw [RS.fromL, if_neg hk]
            have hle := bo3.inn.rg.le
            have hlen : ny = s.L.length - (k - s.first).toNat := by have := hy3.1; rw [hfl, List.length_map, List.length_drop] at this; exact this.symm
            have hnb : ny ≤ 16777216 := by obtain ⟨_, _, _, _, _, _, _, h5, _⟩ := bo3.inn.rg; omega
            obtain ⟨mn, hmn⟩ : ∃ mn : Nat, mm = mn := ⟨mm.toNat, by omega⟩
            subst hmn
            have hmn1 : 1 ≤ mn := by omega
            by_cases hq : mn < ny / 1000
            · clear hk hfe hfl hy3 hlen hle
              go_wp2_with fail
              refine (alive_true _).mono ?_
              rintro e wz ⟨rfl, hkz⟩
              go_wp2
              go_ret
              exact ⟨rfl, hBS.trans (hkz.below hBS.size (fun _ h => h.elim))⟩
            · have HP := Lib.hid (rpieces_all g R s (k - s.first).toNat mn k w3 bo3.inn.rg (by omega) (by omega) hmn1 (by rw [← hlen]; omega))
              rw [hfl] at hy3
              rw [← hlen] at HP
              generalize s.L.drop (k - s.first).toNat = fl at *
              clear hk hfe hfl hlen hle
              have HY3 := Lib.hid hy3
              clear hy3
              go_wp2_with fail
              refine (Hid.out HP).mono ?_
              rintro e w4 ⟨ax, cx, c, rfl, hx4, hc1, hc2, hk4⟩
              have hy4 := (Hid.out HY3).kept hk4 (fun _ _ h => h)
              have cvx := conv_bytes (P := Try.prog) w4 22 9 5 Try.underlying22 Try.underlying5 Try.underlying9 cx hx4
              have cvy := conv_bytes (P := Try.prog) w4 22 9 5 Try.underlying22 Try.underlying5 Try.underlying9 cy hy4
              clear hx4 hy4 HP HY3
              by_cases hn0 : ny = 0
              · subst hn0
                have hc0 : c = 0 := by
                  rcases Nat.eq_zero_or_pos c with h | h
                  · exact h
                  · have := Nat.mul_le_mul_right mn h; omega
                subst hc0
                clear hc1 hc2
                go_wp2_with fail
                refine (alive_true _).mono ?_
                rintro e wz ⟨rfl, hkz⟩
                go_wp2
                go_ret
                exact ⟨rfl, hBS.trans ((hk4.trans hkz).below hBS.size (fun _ h => h.elim))⟩
              · have hcq := count_eq hmn1 (by omega) hc1 hc2
                obtain ⟨y, hy⟩ : ∃ y, y = ny - 1 := ⟨_, rfl⟩
                have hyI : (ny : Int) - 1 = y := by omega
                rw [← hy] at hcq
                obtain ⟨z, hz⟩ : ∃ z, z = y / mn := ⟨_, rfl⟩
                have hzI : (y : Int) / (mn : Int) = z := by rw [hz]; rfl
                rw [← hz] at hcq
                have hzI2 : (y : Int).tdiv (mn : Int) = z := by rw [hz]; rfl
                have hzb : z ≤ 16777216 := by rw [hz]; exact Nat.le_trans (Nat.div_le_self _ _) (by omega)
                have hny0 : 0 < ny := by omega
                have hwz : IntKind.i64.wrap ((z : Int) + 1) = (z : Int) + 1 := IntWalk.i64_in _ (by omega)
                subst hcq
                clear hc1 hc2 hy hz hn0
                go_wp2_with fail
                refine (alive_true _).mono ?_
                rintro e wz ⟨rfl, hkz⟩
                go_wp2
                go_ret
                exact ⟨rfl, hBS.trans ((hk4.trans hkz).below hBS.size (fun _ h => h.elim))⟩
      · by_cases h2 : i < no
        · skip
          go_wp2_with fail
          refine (ffrom h q s k wr bo.rr).mono ?_
          rintro e w3 ⟨ay, ny, cy, rfl, hy3, hk3⟩
          have bo3 := bo.keptNo hk3
          have hBS := bo3.inn.below
          clear bo hk3
          by_cases hk : k < s.first ∨ s.off < k
          · have hfe : s.fromE k = 191 := by rw [RS.fromE, if_pos hk]
            have hfl : s.fromL k = [] := by rw [RS.fromL, if_pos hk]
            have HP := Lib.hid (rpieces_out g R s k mm w3 bo3.inn.rg hk)
            rw [hfl] at hy3
            obtain rfl : 0 = ny := hy3.1
            rw [hfe]
            clear hk hfe hfl hy3
            by_cases hm : 0 < mm
            all_goals go_wp2_with fail
            all_goals refine (Hid.out HP).mono ?_
            all_goals rintro e w4 ⟨rfl, hk4⟩
            all_goals go_wp2_with fail
            all_goals refine (alive_true _).mono ?_
            all_goals rintro e wz ⟨rfl, hkz⟩
            all_goals go_wp2
            all_goals go_ret
            all_goals exact ⟨rfl, hBS.trans ((hk4.trans hkz).below hBS.size (fun _ h => h.elim))⟩
          · have hfe : s.fromE k = 0 := by rw [RS.fromE, if_neg hk]
            rw [hfe]
            by_cases hm1 : mm < 1
            · have HP := Lib.hid (rpieces_short g R s k mm w3 bo3.inn.rg hm1 hk)
              have hm2 : ¬ (0 < mm) := by omega
              clear hk hfe hy3
              go_wp2_with fail
              refine (Hid.out HP).mono ?_
              rintro e w4 ⟨rfl, hk4⟩
              go_wp2_with fail
              refine (alive_true _).mono ?_
              rintro e wz ⟨rfl, hkz⟩
              go_wp2
              go_ret
              exact ⟨rfl, hBS.trans ((hk4.trans hkz).below hBS.size (fun _ h => h.elim))⟩
            · have hfl : s.fromL k = s.L.drop (k - s.first).toNat := by rw [RS.fromL, if_neg hk]
              have hle := bo3.inn.rg.le
              have hlen : ny = s.L.length - (k - s.first).toNat := by have := hy3.1; rw [hfl, List.length_map, List.length_drop] at this; exact this.symm
              have hnb : ny ≤ 16777216 := by obtain ⟨_, _, _, _, _, _, _, h5, _⟩ := bo3.inn.rg; omega
              obtain ⟨mn, hmn⟩ : ∃ mn : Nat, mm = mn := ⟨mm.toNat, by omega⟩
              subst hmn
              have hmn1 : 1 ≤ mn := by omega
              by_cases hq : mn < ny / 1000
              · clear hk hfe hfl hy3 hlen hle
                go_wp2_with fail
                refine (alive_true _).mono ?_
                rintro e wz ⟨rfl, hkz⟩
                go_wp2
                go_ret
                exact ⟨rfl, hBS.trans (hkz.below hBS.size (fun _ h => h.elim))⟩
              · have HP := Lib.hid (rpieces_all g R s (k - s.first).toNat mn k w3 bo3.inn.rg (by omega) (by omega) hmn1 (by rw [← hlen]; omega))
                rw [hfl] at hy3
                rw [← hlen] at HP
                generalize s.L.drop (k - s.first).toNat = fl at *
                clear hk hfe hfl hlen hle
                have HY3 := Lib.hid hy3
                clear hy3
                go_wp2_with fail
                refine (Hid.out HP).mono ?_
                rintro e w4 ⟨ax, cx, c, rfl, hx4, hc1, hc2, hk4⟩
                have hy4 := (Hid.out HY3).kept hk4 (fun _ _ h => h)
                have cvx := conv_bytes (P := Try.prog) w4 22 9 5 Try.underlying22 Try.underlying5 Try.underlying9 cx hx4
                have cvy := conv_bytes (P := Try.prog) w4 22 9 5 Try.underlying22 Try.underlying5 Try.underlying9 cy hy4
                clear hx4 hy4 HP HY3
                by_cases hn0 : ny = 0
                · subst hn0
                  have hc0 : c = 0 := by
                    rcases Nat.eq_zero_or_pos c with h | h
                    · exact h
                    · have := Nat.mul_le_mul_right mn h; omega
                  subst hc0
                  clear hc1 hc2
                  go_wp2_with fail
                  refine (alive_true _).mono ?_
                  rintro e wz ⟨rfl, hkz⟩
                  go_wp2
                  go_ret
                  exact ⟨rfl, hBS.trans ((hk4.trans hkz).below hBS.size (fun _ h => h.elim))⟩
                · have hcq := count_eq hmn1 (by omega) hc1 hc2
                  obtain ⟨y, hy⟩ : ∃ y, y = ny - 1 := ⟨_, rfl⟩
                  have hyI : (ny : Int) - 1 = y := by omega
                  rw [← hy] at hcq
                  obtain ⟨z, hz⟩ : ∃ z, z = y / mn := ⟨_, rfl⟩
                  have hzI : (y : Int) / (mn : Int) = z := by rw [hz]; rfl
                  rw [← hz] at hcq
                  have hzI2 : (y : Int).tdiv (mn : Int) = z := by rw [hz]; rfl
                  have hzb : z ≤ 16777216 := by rw [hz]; exact Nat.le_trans (Nat.div_le_self _ _) (by omega)
                  have hny0 : 0 < ny := by omega
                  have hwz : IntKind.i64.wrap ((z : Int) + 1) = (z : Int) + 1 := IntWalk.i64_in _ (by omega)
                  subst hcq
                  clear hc1 hc2 hy hz hn0
                  go_wp2_with fail
                  refine (alive_true _).mono ?_
                  rintro e wz ⟨rfl, hkz⟩
                  go_wp2
                  go_ret
                  exact ⟨rfl, hBS.trans ((hk4.trans hkz).below hBS.size (fun _ h => h.elim))⟩
        · skip
          go_wp2_with fail
          refine (ffrom h q s k wr bo.rr).mono ?_
          rintro e w3 ⟨ay, ny, cy, rfl, hy3, hk3⟩
          have bo3 := bo.keptNo hk3
          have hBS := bo3.inn.below
          clear bo hk3
          by_cases hk : k < s.first ∨ s.off < k
          · have hfe : s.fromE k = 191 := by rw [RS.fromE, if_pos hk]
            have hfl : s.fromL k = [] := by rw [RS.fromL, if_pos hk]
            have HP := Lib.hid (rpieces_out g R s k mm w3 bo3.inn.rg hk)
            rw [hfl] at hy3
            obtain rfl : 0 = ny := hy3.1
            rw [hfe]
            clear hk hfe hfl hy3
            by_cases hm : 0 < mm
            all_goals go_wp2_with fail
            all_goals refine (Hid.out HP).mono ?_
            all_goals rintro e w4 ⟨rfl, hk4⟩
            all_goals go_wp2_with fail
            all_goals refine (alive_true _).mono ?_
            all_goals rintro e wz ⟨rfl, hkz⟩
            all_goals go_wp2
            all_goals go_ret
            all_goals exact ⟨rfl, hBS.trans ((hk4.trans hkz).below hBS.size (fun _ h => h.elim))⟩
          · have hfe : s.fromE k = 0 := by rw [RS.fromE, if_neg hk]
            rw [hfe]
            by_cases hm1 : mm < 1
            · have HP := Lib.hid (rpieces_short g R s k mm w3 bo3.inn.rg hm1 hk)
              have hm2 : ¬ (0 < mm) := by omega
              clear hk hfe hy3
              go_wp2_with fail
              refine (Hid.out HP).mono ?_
              rintro e w4 ⟨rfl, hk4⟩
              go_wp2_with fail
              refine (alive_true _).mono ?_
              rintro e wz ⟨rfl, hkz⟩
              go_wp2
              go_ret
              exact ⟨rfl, hBS.trans ((hk4.trans hkz).below hBS.size (fun _ h => h.elim))⟩
            · have hfl : s.fromL k = s.L.drop (k - s.first).toNat := by rw [RS.fromL, if_neg hk]
              have hle := bo3.inn.rg.le
              have hlen : ny = s.L.length - (k - s.first).toNat := by have := hy3.1; rw [hfl, List.length_map, List.length_drop] at this; exact this.symm
              have hnb : ny ≤ 16777216 := by obtain ⟨_, _, _, _, _, _, _, h5, _⟩ := bo3.inn.rg; omega
              obtain ⟨mn, hmn⟩ : ∃ mn : Nat, mm = mn := ⟨mm.toNat, by omega⟩
              subst hmn
              have hmn1 : 1 ≤ mn := by omega
              by_cases hq : mn < ny / 1000
              · clear hk hfe hfl hy3 hlen hle
                go_wp2_with fail
                refine (alive_true _).mono ?_
                rintro e wz ⟨rfl, hkz⟩
                go_wp2
                go_ret
                exact ⟨rfl, hBS.trans (hkz.below hBS.size (fun _ h => h.elim))⟩
              · have HP := Lib.hid (rpieces_all g R s (k - s.first).toNat mn k w3 bo3.inn.rg (by omega) (by omega) hmn1 (by rw [← hlen]; omega))
                rw [hfl] at hy3
                rw [← hlen] at HP
                generalize s.L.drop (k - s.first).toNat = fl at *
                clear hk hfe hfl hlen hle
                have HY3 := Lib.hid hy3
                clear hy3
                go_wp2_with fail
                refine (Hid.out HP).mono ?_
                rintro e w4 ⟨ax, cx, c, rfl, hx4, hc1, hc2, hk4⟩
                have hy4 := (Hid.out HY3).kept hk4 (fun _ _ h => h)
                have cvx := conv_bytes (P := Try.prog) w4 22 9 5 Try.underlying22 Try.underlying5 Try.underlying9 cx hx4
                have cvy := conv_bytes (P := Try.prog) w4 22 9 5 Try.underlying22 Try.underlying5 Try.underlying9 cy hy4
                clear hx4 hy4 HP HY3
                by_cases hn0 : ny = 0
                · subst hn0
                  have hc0 : c = 0 := by
                    rcases Nat.eq_zero_or_pos c with h | h
                    · exact h
                    · have := Nat.mul_le_mul_right mn h; omega
                  subst hc0
                  clear hc1 hc2
                  go_wp2_with fail
                  refine (alive_true _).mono ?_
                  rintro e wz ⟨rfl, hkz⟩
                  go_wp2
                  go_ret
                  exact ⟨rfl, hBS.trans ((hk4.trans hkz).below hBS.size (fun _ h => h.elim))⟩
                · have hcq := count_eq hmn1 (by omega) hc1 hc2
                  obtain ⟨y, hy⟩ : ∃ y, y = ny - 1 := ⟨_, rfl⟩
                  have hyI : (ny : Int) - 1 = y := by omega
                  rw [← hy] at hcq
                  obtain ⟨z, hz⟩ : ∃ z, z = y / mn := ⟨_, rfl⟩
                  have hzI : (y : Int) / (mn : Int) = z := by rw [hz]; rfl
                  rw [← hz] at hcq
                  have hzI2 : (y : Int).tdiv (mn : Int) = z := by rw [hz]; rfl
                  have hzb : z ≤ 16777216 := by rw [hz]; exact Nat.le_trans (Nat.div_le_self _ _) (by omega)
                  have hny0 : 0 < ny := by omega
                  have hwz : IntKind.i64.wrap ((z : Int) + 1) = (z : Int) + 1 := IntWalk.i64_in _ (by omega)
                  subst hcq
                  clear hc1 hc2 hy hz hn0
                  go_wp2_with fail
                  refine (alive_true _).mono ?_
                  rintro e wz ⟨rfl, hkz⟩
                  go_wp2
                  go_ret
                  exact ⟨rfl, hBS.trans ((hk4.trans hkz).below hBS.size (fun _ h => h.elim))⟩
end Go.Proofs.Ytlaahdjdlekopaa
