/- A ring that nobody made: what it answers, and its pieces. -/
import Derived.Test.YtlaahdjdlekopaaRi1
namespace Go.Proofs.Ytlaahdjdlekopaa
open Go.RowKit

def NotMade (p : Option Addr) (w : World) : Prop := Calls Try.prog 29 #[.pointer p] w fun e w' => e = .returned (.bool false) ∧ w = w'

theorem rpieces_fn (p : Option Addr) (k mm : Int) (w : World) : Calls Try.prog 37 #[.pointer p, .int .i64 k, .int .i64 mm] w fun e w' =>
    e = .returned (.func (.func 40) #[] #[.pointer (some ⟨w.heap.size, 0, none⟩), .pointer (some ⟨w.heap.size + 1, 0, none⟩), .pointer (some ⟨w.heap.size + 2, 0, none⟩)]) ∧
      ((w.alloc (.cells #[.pointer p] 23)).alloc (.cells #[.int .i64 k] 3)).alloc (.cells #[.int .i64 mm] 3) = w' := by
  go_enter Try.func37, Try.ntmps37
  go_wp2
  go_ret
  exact ⟨rfl, rfl⟩

theorem results_cell {fn : Func} {p : Tmp} {ty : TypeId} (h : fn.results = #[.cell p ty]) (tmps : Array Value) (P : Program) (w : World) :
    (results fn tmps).run P w = ((asAddr (tmps.getD p undef)).run P w).andThen fun a w₁ => (loadVar ty a).run P w₁ := by
  simp only [results, h]
  simp [Sem.run_bind, Result.andThen]

theorem func_nil (f : Fn) (a b : Array Value) (w : World) : (binOp .eql 79 (.func f a b) .nilFunc).run Try.prog w = .ok (.bool false) w := by
  have h : (Op.equalIn Op.maxDepth 79 (.func f a b) .nilFunc).run Try.prog w = .ok false w := by
    rw [show Op.maxDepth = Nat.succ (Op.maxDepth - 1) from rfl]
    simp [Op.equalIn, run_underlying Try.underlying79]
  simp [binOp, Op.equal, Result.andThen, h]

/-- The iterator, where 'From' fails or the pieces would have no length. -/
theorem rp1_none (y : Value) (b : Nat) (p : Option Addr) (k mm : Int) (w : World) (v : Value) (er : Int) (h0 : w.cell? ⟨b, 0, none⟩ = some (.pointer p)) (h1 : w.cell? ⟨b + 1, 0, none⟩ = some (.int .i64 k)) (h2 : w.cell? ⟨b + 2, 0, none⟩ = some (.int .i64 mm))
    (hF : Calls Try.prog 15 #[.pointer p, .int .i64 k] w fun e w' => e = .returned (.tuple #[v, .int .i64 er]) ∧ w = w') (he : er ≠ 0) :
    Calls Try.prog 40 #[y, .pointer (some ⟨b, 0, none⟩), .pointer (some ⟨b + 1, 0, none⟩), .pointer (some ⟨b + 2, 0, none⟩)] w fun e w' => e = .returned (.tuple #[]) ∧ w = w' := by
  have he' : (er == 0) = false := by simpa using he
  have he2 : (er != 0) = true := by simpa using he
  go_enter Try.func40, Try.ntmps40
  go_wp2_with (go_at_call 15; refine hF.mono ?_; rintro e w1 ⟨rfl, rfl⟩)
  exact bodyPost_ret (results_none rfl _ _ _) rfl ⟨rfl, rfl⟩

set_option maxHeartbeats 1600000 in
theorem rpieces_none (p : Option Addr) (k mm : Int) (w : World) (er : Int) (he : er ≠ 0)
    (hF : ∀ w1, Kept NoBlock w w1 → ∃ v, Calls Try.prog 15 #[.pointer p, .int .i64 k] w1 fun e w' => e = .returned (.tuple #[v, .int .i64 er]) ∧ w1 = w') :
    Calls Try.prog 27 #[.pointer p, .int .i64 k, .int .i64 mm] w fun e w' => e = .returned (.tuple #[.slice none 0 0, .int .i64 0, .bool true]) ∧ Kept NoBlock w w' := by
  go_enter Try.func27, Try.ntmps27
  have hfn := func_nil
  go_wp2_with fail
  refine (rpieces_fn p k mm _).mono ?_
  rintro e w1 ⟨rfl, rfl⟩
  go_wp2_with fail
  have hkk : Kept NoBlock w ((((((((w.alloc (.cells #[.int .i64 k] 3)).alloc (.cells #[.int .i64 mm] 3)).alloc (.cells #[.slice none 0 0] 22)).alloc (.cells #[.int .i64 0] 3)).alloc (.cells #[.bool true] 4)).alloc (.cells #[.pointer p] 23)).alloc (.cells #[.int .i64 k] 3)).alloc (.cells #[.int .i64 mm] 3)) :=
    ((((((((Kept.refl NoBlock w).alloc _).alloc _).alloc _).alloc _).alloc _).alloc _).alloc _).alloc _
  obtain ⟨v, hv⟩ := hF _ hkk
  refine (rp1_none _ (w.heap.size + 5) p k mm _ v er (by go_simp) (by go_simp) (by go_simp) hv he).mono ?_
  rintro e w1 ⟨rfl, rfl⟩
  go_wp2
  go_quiet (fail)
  go_wp2
  go_ret3
  exact ⟨rfl, hkk.drewN _⟩

theorem rstate_nobody (p : Option Addr) (w : World) (hm : ∀ w1, Kept NoBlock w w1 → NotMade p w1) : Calls Try.prog 20 #[.pointer p] w fun e w' => e = .returned (.agg #[.int .u64 0, .int .i64 0, .int .u64 0, .int .i64 0]) ∧ Kept NoBlock w w' := by
  have hm1 := hm (w.alloc (.cells #[.int .u64 0, .int .i64 0, .int .u64 0, .int .i64 0] 49)) (Kept.allocd _ _)
  unfold NotMade at hm1
  go_enter Try.func20, Try.ntmps20
  go_wp2_with (go_at_call 29; refine hm1.mono ?_; rintro e w1 ⟨rfl, rfl⟩)
  refine bodyPost_ret (v := .agg #[.int .u64 0, .int .i64 0, .int .u64 0, .int .i64 0]) ((results_cell rfl _ _ _).trans ?_) rfl ⟨rfl, Kept.allocd _ _⟩
  go_simp

set_option maxRecDepth 8000 in
set_option maxHeartbeats 3200000 in
theorem nobody (a : Option Addr) (n c : Nat) (i k : Int) (w : World) : Calls Try.prog 8 #[.slice a n c, .int .u64 i, .int .i64 k] w fun e w' => e = .returned (.bool true) ∧ Below w.heap.size w w' := by
  go_enter Try.func8, Try.ntmps8
  go_wp2
  have h0z : ((w.alloc (.cells #[.int .u64 0, .int .i64 0, .int .u64 0, .int .i64 0, .int .i64 0, .int .i64 0, .slice none 0 0] 65)).alloc (.cells #[.pointer none, .pointer (some ⟨w.heap.size, 0, none⟩)] 23)).heap[w.heap.size]? = some (.cells #[.int .u64 0, .int .i64 0, .int .u64 0, .int .i64 0, .int .i64 0, .int .i64 0, .slice none 0 0] 65 (0, 0)) := by
    rw [heap_alloc_lt _ (by rw [World.size_alloc]; omega)]
    exact heap_alloc_same _
  have h0p : ((w.alloc (.cells #[.int .u64 0, .int .i64 0, .int .u64 0, .int .i64 0, .int .i64 0, .int .i64 0, .slice none 0 0] 65)).alloc (.cells #[.pointer none, .pointer (some ⟨w.heap.size, 0, none⟩)] 23)).heap[w.heap.size + 1]? = some (.cells #[.pointer none, .pointer (some ⟨w.heap.size, 0, none⟩)] 23 (0, 0)) := by
    have := heap_alloc_same (w := w.alloc (.cells #[.int .u64 0, .int .i64 0, .int .u64 0, .int .i64 0, .int .i64 0, .int .i64 0, .slice none 0 0] 65)) (.cells #[.pointer none, .pointer (some ⟨w.heap.size, 0, none⟩)] 23)
    rwa [World.size_alloc] at this
  have hb0 : Below w.heap.size w ((w.alloc (.cells #[.int .u64 0, .int .i64 0, .int .u64 0, .int .i64 0, .int .i64 0, .int .i64 0, .slice none 0 0] 65)).alloc (.cells #[.pointer none, .pointer (some ⟨w.heap.size, 0, none⟩)] 23)) := ((Below.refl _ w).alloc (Nat.le_refl _) _).alloc (by simp) _
  generalize (w.alloc (.cells #[.int .u64 0, .int .i64 0, .int .u64 0, .int .i64 0, .int .i64 0, .int .i64 0, .slice none 0 0] 65)).alloc (.cells #[.pointer none, .pointer (some ⟨w.heap.size, 0, none⟩)] 23) = wb at *
  go_loopw [22] (fun vi wr => ∃ kk : Nat, kk ≤ 2 ∧ vi = .int .i64 kk ∧ Kept NoBlock wb wr) (fun vi _ => 2 - (intOf vi).toNat)
  case atStart => exact ⟨0, by omega, rfl, Kept.refl _ _⟩
  case round =>
    obtain ⟨kk, hkk, rfl, hK⟩ := hrel
    have hz := hK.heap h0z (fun h => h)
    have hp := hK.heap h0p (fun h => h)
    have hc0 : wr.cell? ⟨w.heap.size + 1, 0, none⟩ = some (.pointer none) := cellB hp rfl
    have hc1 : wr.cell? ⟨w.heap.size + 1, 1, none⟩ = some (.pointer (some ⟨w.heap.size, 0, none⟩)) := cellB hp rfl
    clear hp h0z h0p
    have h3 : kk = 0 ∨ kk = 1 ∨ kk = 2 := by omega
    rcases h3 with rfl | rfl | rfl
    · skip
      have hm := fun (w1 : World) (_ : Kept NoBlock wr w1) => (rmade_nil w1 : NotMade none w1)
      have HC := Lib.hid hc0
      go_wp2_with fail
      refine (rfrom_nobody none (.int .i64 k) wr (hm wr (Kept.refl _ _))).mono ?_
      rintro e w1 ⟨rfl, rfl⟩
      go_wp2_with fail
      refine (rwindow_nobody none wr (hm wr (Kept.refl _ _))).mono ?_
      rintro e w1 ⟨rfl, rfl⟩
      go_wp2_with fail
      refine (rpieces_none none k 3 wr 4 (by omega) (fun w1 hk => ⟨_, rfrom_nobody none (.int .i64 k) w1 (hm w1 hk)⟩)).mono ?_
      rintro e w2 ⟨rfl, hk2⟩
      go_wp2_with fail
      refine (rfeed_nobody none (.slice a n c) w2 (hm w2 hk2)).mono ?_
      rintro e w3 ⟨rfl, rfl⟩
      go_wp2_with fail
      refine (rfork_nobody none (.int .u64 i) w2 (hm w2 hk2)).mono ?_
      rintro e w3 ⟨rfl, rfl⟩
      go_wp2_with fail
      refine (rfollow_nobody none (.int .u64 i) (.int .i64 k) w2 (hm w2 hk2)).mono ?_
      rintro e w3 ⟨rfl, rfl⟩
      go_wp2_with fail
      refine (raccepts_nobody none (.int .u64 i) (.int .i64 k) w2 (hm w2 hk2)).mono ?_
      rintro e w3 ⟨rfl, rfl⟩
      go_wp2_with fail
      refine (rstate_nobody none w2 (fun w1 hk => hm w1 (hk2.trans hk))).mono ?_
      rintro e w3 ⟨rfl, hk3⟩
      go_wp2_with fail
      go_roundw
      case rel => exact ⟨1, by omega, rfl, (hK.trans hk2).trans hk3⟩
      case measure => simp [intOf]
    · skip
      have hm := fun (w1 : World) (hk : Kept NoBlock wr w1) => (rmade_zero w.heap.size w1 (cellB (hk.heap hz (fun h => h)) rfl) : NotMade (some ⟨w.heap.size, 0, none⟩) w1)
      have HC := Lib.hid hc1
      go_wp2_with fail
      refine (rfrom_nobody (some ⟨w.heap.size, 0, none⟩) (.int .i64 k) wr (hm wr (Kept.refl _ _))).mono ?_
      rintro e w1 ⟨rfl, rfl⟩
      go_wp2_with fail
      refine (rwindow_nobody (some ⟨w.heap.size, 0, none⟩) wr (hm wr (Kept.refl _ _))).mono ?_
      rintro e w1 ⟨rfl, rfl⟩
      go_wp2_with fail
      refine (rpieces_none (some ⟨w.heap.size, 0, none⟩) k 3 wr 4 (by omega) (fun w1 hk => ⟨_, rfrom_nobody (some ⟨w.heap.size, 0, none⟩) (.int .i64 k) w1 (hm w1 hk)⟩)).mono ?_
      rintro e w2 ⟨rfl, hk2⟩
      go_wp2_with fail
      refine (rfeed_nobody (some ⟨w.heap.size, 0, none⟩) (.slice a n c) w2 (hm w2 hk2)).mono ?_
      rintro e w3 ⟨rfl, rfl⟩
      go_wp2_with fail
      refine (rfork_nobody (some ⟨w.heap.size, 0, none⟩) (.int .u64 i) w2 (hm w2 hk2)).mono ?_
      rintro e w3 ⟨rfl, rfl⟩
      go_wp2_with fail
      refine (rfollow_nobody (some ⟨w.heap.size, 0, none⟩) (.int .u64 i) (.int .i64 k) w2 (hm w2 hk2)).mono ?_
      rintro e w3 ⟨rfl, rfl⟩
      go_wp2_with fail
      refine (raccepts_nobody (some ⟨w.heap.size, 0, none⟩) (.int .u64 i) (.int .i64 k) w2 (hm w2 hk2)).mono ?_
      rintro e w3 ⟨rfl, rfl⟩
      go_wp2_with fail
      refine (rstate_nobody (some ⟨w.heap.size, 0, none⟩) w2 (fun w1 hk => hm w1 (hk2.trans hk))).mono ?_
      rintro e w3 ⟨rfl, hk3⟩
      go_wp2_with fail
      go_roundw
      case rel => exact ⟨2, by omega, rfl, (hK.trans hk2).trans hk3⟩
      case measure => simp [intOf]
    · clear hz hc0 hc1
      go_wp2_with fail
      refine (alive_true wr).mono ?_
      rintro e wz ⟨rfl, hkz⟩
      go_wp2
      go_ret
      exact ⟨rfl, hb0.trans ((hK.trans hkz).below hb0.size (fun _ h => h.elim))⟩
end Go.Proofs.Ytlaahdjdlekopaa
