/- 'pieces' of a ring. -/
import Derived.Test.YtlaahdjdlekopaaRp1
namespace Go.Proofs.Ytlaahdjdlekopaa
open Go.RowKit

theorem eight (w : World) (o0 o1 o2 o3 o4 o5 o6 o7 : Obj) :
    let W := (((((((w.alloc o0).alloc o1).alloc o2).alloc o3).alloc o4).alloc o5).alloc o6).alloc o7
    W.heap[w.heap.size]? = some o0 ∧ W.heap[w.heap.size + 1]? = some o1 ∧ W.heap[w.heap.size + 2]? = some o2 ∧ W.heap[w.heap.size + 3]? = some o3 ∧
    W.heap[w.heap.size + 4]? = some o4 ∧ W.heap[w.heap.size + 5]? = some o5 ∧ W.heap[w.heap.size + 6]? = some o6 ∧ W.heap[w.heap.size + 7]? = some o7 := by
  simp only [World.alloc]
  refine ⟨?_, ?_, ?_, ?_, ?_, ?_, ?_, ?_⟩ <;> (simp only [Array.getElem?_push, Array.size_push]; repeat (first | rw [if_neg (by omega)] | rw [if_pos trivial] | rw [if_pos (by omega)]))

theorem quiet8 (w : World) (o0 o1 o2 o3 o4 o5 o6 o7 : Obj) : Kept NoBlock w ((((((((w.alloc o0).alloc o1).alloc o2).alloc o3).alloc o4).alloc o5).alloc o6).alloc o7) :=
  ((((((((Kept.refl NoBlock w).alloc _).alloc _).alloc _).alloc _).alloc _).alloc _).alloc _).alloc _

set_option maxHeartbeats 1600000 in
theorem rpieces_all (g : Nat) (R : Option Nat) (s : RS) (j m : Nat) (k : Int) (w : World) (hR : Rg w g R s) (hk : k = s.first + j) (hj : j ≤ s.L.length) (hm : 1 ≤ m) (hq : (s.L.length - j) / 1000 ≤ m) :
    Calls Try.prog 27 #[.pointer (some ⟨g, 0, none⟩), .int .i64 k, .int .i64 m] w fun e w' => ∃ ap cap c, e = .returned (.tuple #[.slice ap (s.L.length - j) cap, .int .i64 ((c : Nat) : Int), .bool true]) ∧
      Holds w' ap (s.L.length - j) ((s.L.drop j).map bv) ∧ s.L.length - j ≤ c * m ∧ c * m < s.L.length - j + m ∧ Kept NoBlock w w' := by
  have hll : (s.L.drop j).length = s.L.length - j := List.length_drop
  have hkk := quiet8 w (.cells #[.int .i64 k] 3) (.cells #[.int .i64 m] 3) (.cells #[.slice none 0 0] 22) (.cells #[.int .i64 0] 3) (.cells #[.bool true] 4) (.cells #[.pointer (some ⟨g, 0, none⟩)] 23) (.cells #[.int .i64 k] 3) (.cells #[.int .i64 m] 3)
  obtain ⟨b0, b1, b2, b3, b4, b5, b6, b7⟩ := eight w (.cells #[.int .i64 k] 3) (.cells #[.int .i64 m] 3) (.cells #[.slice none 0 0] 22) (.cells #[.int .i64 0] 3) (.cells #[.bool true] 4) (.cells #[.pointer (some ⟨g, 0, none⟩)] 23) (.cells #[.int .i64 k] 3) (.cells #[.int .i64 m] 3)
  have HI := Lib.hid (riter _ g R s w.heap.size j m k (hR.keptNo hkk) hk hj hm hq b0 b1 b2 b3 b4 b5 b6 b7)
  have HKK := Lib.hid hkk
  have hfn := func_nil
  clear hR hk hj hq b0 b1 b2 b3 b4 b5 b6 b7 hkk
  generalize s.L.length - j = len at *
  generalize s.L.drop j = fl at *
  have HL := Lib.hid hll
  clear hll
  go_enter Try.func27, Try.ntmps27
  go_wp2_with fail
  refine (rpieces_fn (some ⟨g, 0, none⟩) k m _).mono ?_
  rintro e w1 ⟨rfl, rfl⟩
  go_wp2_with fail
  refine (Hid.out HI).mono ?_
  rintro e w2 ⟨rfl, ⟨B0, c, hP, hc1, hc2⟩, hK⟩
  have hk2 : Kept NoBlock w w2 := (Hid.out HKK).trans' hK (fun i hi h => by rcases h with h | h | h <;> omega)
  have HK2 := Lib.hid hk2
  obtain ⟨p0, p1, ⟨v, p2, hrow⟩, p3, p4, pB, ps⟩ := hP
  rw [Hid.out HL] at hrow
  obtain ⟨ap, cap, rfl, _⟩ := ownsRow_form hrow
  have hA := ownsRow_holds hrow
  have c2 := p2.cell
  have c3 := p3.cell
  have c4 := p4.cell
  clear p0 p1 p2 p3 p4 hrow hK hk2 HI HKK
  have HC1 := Lib.hid hc1
  have HC2 := Lib.hid hc2
  clear hc1 hc2
  go_wp2
  go_quiet (fail)
  go_wp2
  go_ret3
  exact ⟨ap, cap, c, rfl, hA.kept ((Kept.refl NoBlock w2).drewN _) (fun _ _ h => h), Hid.out HC1, Hid.out HC2, (Hid.out HK2).drewN _⟩

/-- The iterator, where pieces would have no length. -/
theorem rp1_short (y : Value) (b : Nat) (p : Option Addr) (k mm : Int) (w : World) (hmm : mm < 1) (h0 : w.cell? ⟨b, 0, none⟩ = some (.pointer p)) (h1 : w.cell? ⟨b + 1, 0, none⟩ = some (.int .i64 k)) (h2 : ∀ w', Kept NoBlock w w' → w'.cell? ⟨b + 2, 0, none⟩ = some (.int .i64 mm))
    (hF : Calls Try.prog 15 #[.pointer p, .int .i64 k] w fun e w' => ∃ v, e = .returned (.tuple #[v, .int .i64 0]) ∧ Kept NoBlock w w') :
    Calls Try.prog 40 #[y, .pointer (some ⟨b, 0, none⟩), .pointer (some ⟨b + 1, 0, none⟩), .pointer (some ⟨b + 2, 0, none⟩)] w fun e w' => e = .returned (.tuple #[]) ∧ Kept NoBlock w w' := by
  have H2 := Lib.hid h2
  clear h2
  go_enter Try.func40, Try.ntmps40
  go_wp2_with fail
  refine hF.mono ?_
  rintro e w1 ⟨v1, rfl, hk1⟩
  have c2 := (Hid.out H2) w1 hk1
  go_wp2
  exact bodyPost_ret (results_none rfl _ _ _) rfl ⟨rfl, hk1⟩

set_option maxHeartbeats 1600000 in
theorem rpieces_short (g : Nat) (R : Option Nat) (s : RS) (k mm : Int) (w : World) (hR : Rg w g R s) (hmm : mm < 1) (hk : ¬ (k < s.first ∨ s.off < k)) :
    Calls Try.prog 27 #[.pointer (some ⟨g, 0, none⟩), .int .i64 k, .int .i64 mm] w fun e w' => e = .returned (.tuple #[.slice none 0 0, .int .i64 0, .bool true]) ∧ Kept NoBlock w w' := by
  have hkk := quiet8 w (.cells #[.int .i64 k] 3) (.cells #[.int .i64 mm] 3) (.cells #[.slice none 0 0] 22) (.cells #[.int .i64 0] 3) (.cells #[.bool true] 4) (.cells #[.pointer (some ⟨g, 0, none⟩)] 23) (.cells #[.int .i64 k] 3) (.cells #[.int .i64 mm] 3)
  obtain ⟨b0, b1, b2, b3, b4, b5, b6, b7⟩ := eight w (.cells #[.int .i64 k] 3) (.cells #[.int .i64 mm] 3) (.cells #[.slice none 0 0] 22) (.cells #[.int .i64 0] 3) (.cells #[.bool true] 4) (.cells #[.pointer (some ⟨g, 0, none⟩)] 23) (.cells #[.int .i64 k] 3) (.cells #[.int .i64 mm] 3)
  have HI := fun y => Lib.hid (rp1_short y (w.heap.size + 5) (some ⟨g, 0, none⟩) k mm _ hmm (cellB b5 rfl) (cellB b6 rfl) (fun w' hk => (hk.cell (cellB b7 rfl) (fun h => h)))
    ((xfrom g R s k _ (hR.keptNo hkk)).mono (by rintro e w' ⟨ap, n, cap, rfl, -, -, hk'⟩; exact ⟨.slice ap n cap, by rw [RS.fromE, if_neg hk], hk'⟩)))
  have HKK := Lib.hid hkk
  have C2 := Lib.hid (fun (w' : World) (hk : Kept NoBlock _ w') => hk.cell (cellB b2 (i := 0) rfl) (fun h => h))
  have C3 := Lib.hid (fun (w' : World) (hk : Kept NoBlock _ w') => hk.cell (cellB b3 (i := 0) rfl) (fun h => h))
  have C4 := Lib.hid (fun (w' : World) (hk : Kept NoBlock _ w') => hk.cell (cellB b4 (i := 0) rfl) (fun h => h))
  have hfn := func_nil
  clear hR hk b0 b1 b2 b3 b4 b5 b6 b7 hkk
  go_enter Try.func27, Try.ntmps27
  go_wp2_with fail
  refine (rpieces_fn (some ⟨g, 0, none⟩) k mm _).mono ?_
  rintro e w1 ⟨rfl, rfl⟩
  go_wp2_with fail
  refine (Hid.out (HI _)).mono ?_
  rintro e w2 ⟨rfl, hK⟩
  have c2 := (Hid.out C2) w2 hK
  have c3 := (Hid.out C3) w2 hK
  have c4 := (Hid.out C4) w2 hK
  have HK2 := Lib.hid ((Hid.out HKK).trans hK)
  clear HI HKK C2 C3 C4 hK
  go_wp2
  go_quiet (fail)
  go_wp2
  go_ret3
  exact ⟨rfl, (Hid.out HK2).drewN _⟩

theorem rpieces_out (g : Nat) (R : Option Nat) (s : RS) (k mm : Int) (w : World) (hR : Rg w g R s) (hk : k < s.first ∨ s.off < k) :
    Calls Try.prog 27 #[.pointer (some ⟨g, 0, none⟩), .int .i64 k, .int .i64 mm] w fun e w' => e = .returned (.tuple #[.slice none 0 0, .int .i64 0, .bool true]) ∧ Kept NoBlock w w' :=
  rpieces_none (some ⟨g, 0, none⟩) k mm w 191 (by omega) (fun w1 hk1 => ⟨_, rfrom_out g R s k w1 (hR.keptNo hk1) hk⟩)
end Go.Proofs.Ytlaahdjdlekopaa
