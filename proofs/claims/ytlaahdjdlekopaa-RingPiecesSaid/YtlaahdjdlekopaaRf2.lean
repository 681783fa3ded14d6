/- The document's ring: what it does when it is fed, forked, when it follows, and whom it accepts. -/
import Derived.Test.YtlaahdjdlekopaaRf1
namespace Go.Proofs.Ytlaahdjdlekopaa
open Go.RowKit

theorem Holds.keptPos {S : Nat → Prop} {w w' : World} {ap : Option Addr} {n : Nat} {xs : List Value} (h : Holds w ap n xs) (hk : Kept S w w') (hS : ∀ ad, ap = some ad → 0 < n → ¬ S ad.block) : Holds w' ap n xs := by
  rcases Nat.eq_zero_or_pos n with h0 | h0
  · exact ⟨h.1, fun hn => by omega⟩
  · exact h.kept hk (fun ad e => hS ad e h0)

theorem ffeed_long (h : Nat) (q : Option Nat) (s : RS) (ap : Option Addr) (n cap : Nat) (w : World) (hr : Rr w h q s) (hfit : 1125899906842624 < s.off + n) :
    Calls Try.prog 33 #[.pointer (some ⟨h, 0, none⟩), .slice ap n cap] w fun e w' => e = .returned (.int .i64 2) ∧ w = w' := by
  obtain ⟨aq, cq, h0, h1, h2, h3, h4, h5, h6, h7, h8, h9⟩ := hr
  obtain ⟨c0, c1, c2, c3, c4, c5⟩ := blk6 h0
  have hfit' : (1125899906842624 : Int) - s.off < n := by omega
  clear h1 h0 h2 h3 h4
  go_enter Try.func33, Try.ntmps33
  go_wp2
  go_ret
  exact ⟨rfl, rfl⟩

theorem add_block (ad : Addr) (k : Nat) : (ad.add k).block = ad.block := by unfold Addr.add; split <;> rfl

theorem rr_fed {w9 : World} {h : Nat} {s : RS} {b : List UInt8} {ap : Option Addr} {m cap : Nat} {o : Int}
    (hh : w9.heap[h]? = some (.cells #[.int .u64 s.id, .int .i64 o, .int .u64 s.second, .int .i64 s.fork, .int .i64 s.size, .slice ap m cap] 52 (0, 0)))
    (ho : o = s.off + b.length) (h1 : s.off = s.first + s.L.length) (hs : 1 ≤ s.size) (hs2 : s.size ≤ 16777216) (hoff : s.off + b.length ≤ 1125899906842624)
    (hm : m = min (s.L.length + b.length) s.size) (hmc : m ≤ cap) (hz : ap = none → cap = 0) (hH : Holds w9 ap m (((s.L ++ b).drop (s.L.length + b.length - s.size)).map bv)) (hq : ∀ ad, ap = some ad → ad.block ≠ h) :
    Rr w9 h (ap.map (·.block)) (s.feed b) := by
  have hl : (s.feed b).L.length = m := by simp only [RS.feed, List.length_drop, List.length_append]; omega
  refine ⟨ap, cap, ?_, ?_, ?_, by omega, hz, by rw [hl]; exact hH, fun ad e => ⟨by rw [e]; rfl, hq ad e⟩, hs, hs2, hoff⟩
  · rw [hl, hh, ho]; rfl
  · rw [hl]; simp only [RS.feed]; omega
  · rw [hl]; simp only [RS.feed]; omega

set_option maxHeartbeats 3200000 in
theorem ffeed_in (h : Nat) (q : Option Nat) (s : RS) (ap : Option Addr) (n cap : Nat) (b : List UInt8) (w : World) (hr : Rr w h q s) (hb : Holds w ap n (b.map bv)) (hncap : n ≤ cap) (hz : ap = none → cap = 0)
    (haway : ∀ ad, ap = some ad → 0 < n → ad.block ≠ h) (hn : n ≤ 1000) (hfit : s.off + n ≤ 1125899906842624) (hov : s.L.length + n ≤ s.size) :
    Calls Try.prog 33 #[.pointer (some ⟨h, 0, none⟩), .slice ap n cap] w fun e w' => e = .returned (.int .i64 0) ∧ ∃ q', (∀ r, q' = some r → w.heap.size ≤ r ∧ r < w'.heap.size) ∧ Rr w' h q' (s.feed b) ∧ Kept (fun k => k = h) w w' := by
  obtain ⟨aq, cq, h0, h1, h2, h3, h4, h5, h6, h7, h8, h9⟩ := hr
  obtain ⟨c0, c1, c2, c3, c4, c5⟩ := blk6 h0
  have f1 := frozenB h0 1
  obtain ⟨i0, hi, hz0, hz1, hz2⟩ := info_parts binfo
  have hfit' : ¬ ((1125899906842624 : Int) - s.off < n) := by omega
  have hhs := lt_of_heap h0
  have hbl : b.length = n := by simpa using hb.1
  generalize hM : s.L.length = M at c5 h2 h3 h5 hov ⊢
  have hMb : M ≤ 16777216 := by omega
  have hH1 := heap_setCell_same h0 1 (.int .i64 ((s.off : Int) + (n : Int)))
  have hK1 : Kept (fun k => k = h) w (w.setCell ⟨h, 1, none⟩ (.int .i64 ((s.off : Int) + (n : Int)))) := Kept.setCell (S := fun k => k = h) (p := ⟨h, 1, none⟩) (Kept.refl _ _) (fun _ => rfl) _
  have hL1 : Holds (w.setCell ⟨h, 1, none⟩ (.int .i64 ((s.off : Int) + (n : Int)))) aq M (s.L.map bv) := h5.kept hK1 (fun ad e => (h6 ad e).2)
  have hB1 : Holds (w.setCell ⟨h, 1, none⟩ (.int .i64 ((s.off : Int) + (n : Int)))) ap n (b.map bv) := hb.keptPos hK1 (fun ad e hp => haway ad e hp)
  have hS1 : (w.setCell ⟨h, 1, none⟩ (.int .i64 ((s.off : Int) + (n : Int)))).heap.size = w.heap.size := by simp [World.setCell]
  have hm1 := fresh_nil (w.setCell ⟨h, 1, none⟩ (.int .i64 ((s.off : Int) + (n : Int))))
  rw [hS1] at hm1
  have hkA : Kept NoBlock (w.setCell ⟨h, 1, none⟩ (.int .i64 ((s.off : Int) + (n : Int)))) ((w.setCell ⟨h, 1, none⟩ (.int .i64 ((s.off : Int) + (n : Int)))).alloc (.cells #[] 5)) := Kept.allocd _ _
  have HF := Lib.hid (show s.off = s.first + M by omega)
  have HB := Lib.hid hbl
  have HS1 := Lib.hid hS1
  have HH1 := Lib.hid hH1
  have HK1 := Lib.hid hK1
  have HM := Lib.hid hM
  have hbase1 : w.heap.size ≤ ((w.setCell ⟨h, 1, none⟩ (.int .i64 ((s.off : Int) + (n : Int)))).alloc (.cells #[] 5)).heap.size := by rw [World.alloc]; simp [World.setCell]
  have hsA := hL1.kept hkA (fun _ _ h => h)
  have HZ := Lib.hid h4
  have hoI : ¬ ((s.size : Int) < M + n) := by omega
  clear h1 h0 h5 hbl hS1 hH1 hK1 hM h4 h6
  go_enter Try.func33, Try.ntmps33
  go_wp2_with (at_builtin; refine wpList_append_holds rfl _ _ 22 rfl w.heap.size 5 i0 (.int .u8 0) 1 Try.underlying22 hi hz0 hz1 hz2 rfl _ 0 [] rfl hm1 aq M cq _ rfl hsA (Hid.out HZ) (bv_one _) (by unfold maxLen; omega) (by omega) hbase1 ?_; intro v7 w7 hrow7 hgr7; refine Hid.out ?_)
  refine Lib.hid ?_
  have hk7 : Kept NoBlock (w.setCell ⟨h, 1, none⟩ (.int .i64 ((s.off : Int) + (n : Int)))) w7 := hkA.grown hgr7 (fun k e hk => absurd (hm1.lt k e).1 (by rw [Hid.out HS1] at hk; omega))
  rw [Nat.zero_add, List.nil_append] at hrow7
  obtain ⟨ap7, cap7, rfl, hz7, hc7⟩ := ownsRow_form2 hrow7
  have hsB := hB1.kept hk7 (fun _ _ h => h)
  have hbase7 : w.heap.size ≤ w7.heap.size := by have := hk7.size; rw [Hid.out HS1] at this; exact this
  clear hgr7 hm1 hsA hbase1 hkA hL1 hB1 c0 c1 c2 c3 c4 c5 f1
  go_wp2_with (at_builtin; refine wpList_append_holds rfl _ _ 22 rfl w.heap.size 5 i0 (.int .u8 0) 1 Try.underlying22 hi hz0 hz1 hz2 rfl _ M _ rfl hrow7 ap n cap _ rfl hsB hz (bv_one _) (by unfold maxLen; omega) (by omega) hbase7 ?_; intro v8 w8 hrow8 hgr8; refine Hid.out ?_)
  refine Lib.hid ?_
  have hk8 : Kept NoBlock (w.setCell ⟨h, 1, none⟩ (.int .i64 ((s.off : Int) + (n : Int)))) w8 := hk7.grown hgr8 (fun k e hk => absurd (hrow7.lt k e).1 (by rw [Hid.out HS1] at hk; omega))
  rw [← List.map_append] at hrow8
  obtain ⟨ap8, cap8, rfl, hz8, hc8⟩ := ownsRow_form2 hrow8
  have hA8 := ownsRow_holds hrow8
  have hAl := ownsRow_lt hrow8
  have hH8 := hk8.heap (Hid.out HH1) (fun h => h)
  have hK8 : Kept (fun k => k = h) w w8 := (Hid.out HK1).trans (hk8.mono (fun _ _ h => h.elim))
  obtain ⟨d0, d1, d2, d3, d4, d5⟩ := blk6 hH8
  have g5 := frozenB hH8 5
  have HH8 := Lib.hid hH8
  have HK8 := Lib.hid hK8
  have HA8 := Lib.hid hA8
  have HAl := Lib.hid hAl
  clear hgr8 hrow7 hsB hbase7 hrow8 hA8 hAl hH8 hK8 hk8 hk7 hb
  have HC8 := Lib.hid hc8
  have HZ8 := Lib.hid hz8
  have hH9 := fun v => heap_setCell_same (Hid.out HH8) 5 v
  have hK9 : ∀ v, Kept (fun k => k = h) w (w8.setCell ⟨h, 5, none⟩ v) := fun v => Kept.setCell (S := fun k => k = h) (p := ⟨h, 5, none⟩) (Hid.out HK8) (fun _ => rfl) _
  have HH9 := Lib.hid hH9
  have HK9 := Lib.hid hK9
  clear hc8 hz8 hH9 hK9
  go_wp2
  go_ret
  refine ⟨rfl, ap8.map (·.block), fun r e => ?_, rr_fed (ap := ap8) ((Hid.out HH9) _) ?_ (by rw [Hid.out HF, Hid.out HM]) h7 h8 (by rw [Hid.out HB]; exact hfit) ?_ (Hid.out HC8) (Hid.out HZ8) ?_ ?_, (Hid.out HK9) _⟩
  · obtain ⟨ad, e1, rfl⟩ := Option.map_eq_some_iff.1 e
    exact ⟨((Hid.out HAl) _ e1).2, Nat.lt_of_lt_of_le ((Hid.out HAl) _ e1).1 (Kept.setCell (S := fun k => k = h) (p := ⟨h, 5, none⟩) (Kept.refl _ w8) (fun _ => rfl) _).size⟩
  · rw [Hid.out HB]
  · rw [Hid.out HB, Hid.out HM]; omega
  · rw [Hid.out HB, Hid.out HM, show M + n - s.size = 0 by omega, List.drop_zero]
    exact (Hid.out HA8).kept (Kept.setCell (S := fun k => k = h) (p := ⟨h, 5, none⟩) (Kept.refl _ w8) (fun _ => rfl) _) (fun ad e hh => by have := ((Hid.out HAl) _ e).2; omega)
  · intro ad e; have := ((Hid.out HAl) _ e).2; omega
set_option maxHeartbeats 3200000 in
theorem ffeed_over (h : Nat) (q : Option Nat) (s : RS) (ap : Option Addr) (n cap : Nat) (b : List UInt8) (w : World) (hr : Rr w h q s) (hb : Holds w ap n (b.map bv)) (hncap : n ≤ cap) (hz : ap = none → cap = 0)
    (haway : ∀ ad, ap = some ad → 0 < n → ad.block ≠ h) (hn : n ≤ 1000) (hfit : s.off + n ≤ 1125899906842624) (hov : s.size < s.L.length + n) :
    Calls Try.prog 33 #[.pointer (some ⟨h, 0, none⟩), .slice ap n cap] w fun e w' => e = .returned (.int .i64 0) ∧ ∃ q', (∀ r, q' = some r → w.heap.size ≤ r ∧ r < w'.heap.size) ∧ Rr w' h q' (s.feed b) ∧ Kept (fun k => k = h) w w' := by
  obtain ⟨aq, cq, h0, h1, h2, h3, h4, h5, h6, h7, h8, h9⟩ := hr
  obtain ⟨c0, c1, c2, c3, c4, c5⟩ := blk6 h0
  have f1 := frozenB h0 1
  obtain ⟨i0, hi, hz0, hz1, hz2⟩ := info_parts binfo
  have hfit' : ¬ ((1125899906842624 : Int) - s.off < n) := by omega
  have hhs := lt_of_heap h0
  have hbl : b.length = n := by simpa using hb.1
  generalize hM : s.L.length = M at c5 h2 h3 h5 hov ⊢
  have hMb : M ≤ 16777216 := by omega
  have hH1 := heap_setCell_same h0 1 (.int .i64 ((s.off : Int) + (n : Int)))
  have hK1 : Kept (fun k => k = h) w (w.setCell ⟨h, 1, none⟩ (.int .i64 ((s.off : Int) + (n : Int)))) := Kept.setCell (S := fun k => k = h) (p := ⟨h, 1, none⟩) (Kept.refl _ _) (fun _ => rfl) _
  have hL1 : Holds (w.setCell ⟨h, 1, none⟩ (.int .i64 ((s.off : Int) + (n : Int)))) aq M (s.L.map bv) := h5.kept hK1 (fun ad e => (h6 ad e).2)
  have hB1 : Holds (w.setCell ⟨h, 1, none⟩ (.int .i64 ((s.off : Int) + (n : Int)))) ap n (b.map bv) := hb.keptPos hK1 (fun ad e hp => haway ad e hp)
  have hS1 : (w.setCell ⟨h, 1, none⟩ (.int .i64 ((s.off : Int) + (n : Int)))).heap.size = w.heap.size := by simp [World.setCell]
  have hm1 := fresh_nil (w.setCell ⟨h, 1, none⟩ (.int .i64 ((s.off : Int) + (n : Int))))
  rw [hS1] at hm1
  have hkA : Kept NoBlock (w.setCell ⟨h, 1, none⟩ (.int .i64 ((s.off : Int) + (n : Int)))) ((w.setCell ⟨h, 1, none⟩ (.int .i64 ((s.off : Int) + (n : Int)))).alloc (.cells #[] 5)) := Kept.allocd _ _
  have HF := Lib.hid (show s.off = s.first + M by omega)
  have HB := Lib.hid hbl
  have HS1 := Lib.hid hS1
  have HH1 := Lib.hid hH1
  have HK1 := Lib.hid hK1
  have HM := Lib.hid hM
  have hbase1 : w.heap.size ≤ ((w.setCell ⟨h, 1, none⟩ (.int .i64 ((s.off : Int) + (n : Int)))).alloc (.cells #[] 5)).heap.size := by rw [World.alloc]; simp [World.setCell]
  have hsA := hL1.kept hkA (fun _ _ h => h)
  have HZ := Lib.hid h4
  obtain ⟨kk, hkk⟩ : ∃ kk : Nat, kk = M + n - s.size := ⟨_, rfl⟩
  have hkI : (M : Int) + n - s.size = kk := by omega
  have hoI : (s.size : Int) < M + n := by omega
  have hkw : IntKind.i64.wrap (kk : Int) = kk := IntWalk.i64_in _ (by omega)
  have HKK := Lib.hid hkk
  have hkle : kk ≤ M + n := by omega
  have hkc : M + n - kk = s.size := by omega
  clear hkk
  clear h1 h0 h5 hbl hS1 hH1 hK1 hM h4 h6
  go_enter Try.func33, Try.ntmps33
  go_wp2_with (at_builtin; refine wpList_append_holds rfl _ _ 22 rfl w.heap.size 5 i0 (.int .u8 0) 1 Try.underlying22 hi hz0 hz1 hz2 rfl _ 0 [] rfl hm1 aq M cq _ rfl hsA (Hid.out HZ) (bv_one _) (by unfold maxLen; omega) (by omega) hbase1 ?_; intro v7 w7 hrow7 hgr7; refine Hid.out ?_)
  refine Lib.hid ?_
  have hk7 : Kept NoBlock (w.setCell ⟨h, 1, none⟩ (.int .i64 ((s.off : Int) + (n : Int)))) w7 := hkA.grown hgr7 (fun k e hk => absurd (hm1.lt k e).1 (by rw [Hid.out HS1] at hk; omega))
  rw [Nat.zero_add, List.nil_append] at hrow7
  obtain ⟨ap7, cap7, rfl, hz7, hc7⟩ := ownsRow_form2 hrow7
  have hsB := hB1.kept hk7 (fun _ _ h => h)
  have hbase7 : w.heap.size ≤ w7.heap.size := by have := hk7.size; rw [Hid.out HS1] at this; exact this
  clear hgr7 hm1 hsA hbase1 hkA hL1 hB1 c0 c1 c2 c3 c4 c5 f1
  go_wp2_with (at_builtin; refine wpList_append_holds rfl _ _ 22 rfl w.heap.size 5 i0 (.int .u8 0) 1 Try.underlying22 hi hz0 hz1 hz2 rfl _ M _ rfl hrow7 ap n cap _ rfl hsB hz (bv_one _) (by unfold maxLen; omega) (by omega) hbase7 ?_; intro v8 w8 hrow8 hgr8; refine Hid.out ?_)
  refine Lib.hid ?_
  have hk8 : Kept NoBlock (w.setCell ⟨h, 1, none⟩ (.int .i64 ((s.off : Int) + (n : Int)))) w8 := hk7.grown hgr8 (fun k e hk => absurd (hrow7.lt k e).1 (by rw [Hid.out HS1] at hk; omega))
  rw [← List.map_append] at hrow8
  obtain ⟨ap8, cap8, rfl, hz8, hc8⟩ := ownsRow_form2 hrow8
  have hA8 := ownsRow_holds hrow8
  have hAl := ownsRow_lt hrow8
  have hH8 := hk8.heap (Hid.out HH1) (fun h => h)
  have hK8 : Kept (fun k => k = h) w w8 := (Hid.out HK1).trans (hk8.mono (fun _ _ h => h.elim))
  obtain ⟨d0, d1, d2, d3, d4, d5⟩ := blk6 hH8
  have g5 := frozenB hH8 5
  have HH8 := Lib.hid hH8
  have HK8 := Lib.hid hK8
  have HA8 := Lib.hid hA8
  have HAl := Lib.hid hAl
  clear hgr8 hrow7 hsB hbase7 hrow8 hA8 hAl hH8 hK8 hk8 hk7 hb
  obtain ⟨a8, rfl⟩ : ∃ a8, ap8 = some a8 := by
    cases ap8 with
    | none => have := hz8 rfl; omega
    | some a8 => exact ⟨a8, rfl⟩
  have hck : ¬ cap8 = kk := by omega
  have hck2 : kk ≤ cap8 := by omega
  have HC8 := Lib.hid hc8
  have hH9 := fun v => heap_setCell_same (Hid.out HH8) 5 v
  have hK9 : ∀ v, Kept (fun k => k = h) w (w8.setCell ⟨h, 5, none⟩ v) := fun v => Kept.setCell (S := fun k => k = h) (p := ⟨h, 5, none⟩) (Hid.out HK8) (fun _ => rfl) _
  have HH9 := Lib.hid hH9
  have HK9 := Lib.hid hK9
  clear hc8 hz8 hH9 hK9
  go_wp2
  go_ret
  refine ⟨rfl, some (a8.add kk).block, fun r e => ?_, rr_fed (ap := some (a8.add kk)) ((Hid.out HH9) _) ?_ (by rw [Hid.out HF, Hid.out HM]) h7 h8 (by rw [Hid.out HB]; exact hfit) ?_ ?_ (fun e => by cases e) ?_ ?_, (Hid.out HK9) _⟩
  · cases e; rw [add_block]; exact ⟨((Hid.out HAl) _ rfl).2, Nat.lt_of_lt_of_le ((Hid.out HAl) _ rfl).1 (Kept.setCell (S := fun k => k = h) (p := ⟨h, 5, none⟩) (Kept.refl _ w8) (fun _ => rfl) _).size⟩
  · rw [Hid.out HB]
  · rw [Hid.out HB, Hid.out HM]; omega
  · have := Hid.out HC8; omega
  · rw [Hid.out HB, Hid.out HM, ← Hid.out HKK]
    have h1 := holds_mid (Hid.out HA8) (Hid.out HC8) (i := kk) (k := s.size) (by omega)
    rw [if_neg hck, List.take_of_length_le (by rw [List.length_drop, List.length_append, Hid.out HB, Hid.out HM]; omega)] at h1
    exact h1.kept (Kept.setCell (S := fun k => k = h) (p := ⟨h, 5, none⟩) (Kept.refl _ w8) (fun _ => rfl) _) (fun ad e hh => by cases e; rw [add_block] at hh; have := ((Hid.out HAl) _ rfl).2; omega)
  · intro ad e; cases e; rw [add_block]; have := ((Hid.out HAl) _ rfl).2; omega
end Go.Proofs.Ytlaahdjdlekopaa
