/- Merged: What each law asks at its head: the sum of nine digits, and a store of one string, there and back; inputs cut. -/
import Derived.Test.YtfhlhpknobkplaaDoorZDc2
import Derived.Lib.SlBytesConst
import Derived.Lib.SmallJoins
set_option linter.all false
namespace Go.Proofs.YtfhlhpknobkplaaDoor
open Go.RowKit
attribute [local go_sem] fold_part fold_some fold_some' partAt_zero

def aE : Ent := ⟨[107], ⟨1, [118], [], [], []⟩, -1⟩
def aM : EntM := ⟨aE, .slice none 0 0, .slice none 0 0, .slice none 0 0⟩
theorem aE_check : checkE [aE] = 0 := by decide
theorem aE_enc : encB 7 3 [aE] = .ok (writtenB 7 3 [aE] ++ leB 4 (sumB (writtenB 7 3 [aE]))) := by
  unfold encB
  rw [aE_check]
  simp
theorem nine_sum : sumB [49, 50, 51, 52, 53, 54, 55, 56, 57] = 3421780262 := by kernel_rfl
theorem RowK.one {α : Type} {k : Nat} {f : α → List Value} {w : World} {g : Nat} {cs : Array Value} {T : TypeId} {fz : Nat × Nat} {x : α} (h : w.heap[g]? = some (.cells cs T fz)) (hf : (f x).length = k) (hc : cs.toList = f x) : RowK k f w (.slice (some ⟨g, 0, none⟩) 1 1) [x] := by
  refine ⟨_, _, rfl, ⟨by simp [hf], fun _ => ⟨_, rfl, fun j v hj => ?_⟩⟩, Nat.le_refl _, fun h => by cases h⟩
  rw [addr_add, Nat.zero_add]
  refine cellB h ?_
  have hj' : (f x)[j]? = some v := by simpa using hj
  rw [← hc] at hj'
  simpa using hj'

theorem matV_one {w : World} {v : Value} {X : Bs} (h : BytesV w v X) : MatV (w.alloc (.cells #[v] 22)) (.slice (some ⟨w.heap.size, 0, none⟩) 1 1) [(v, X)] := by
  refine ⟨RowV.mk ⟨rfl, fun _ => ⟨_, rfl, fun j u hj => ?_⟩⟩ (Nat.le_refl _) (fun h => by cases h), fun p hp => ?_⟩
  · rw [addr_add, Nat.zero_add]
    exact cellB (heap_alloc_new w _) (by simpa using hj)
  · obtain rfl := List.mem_singleton.1 hp
    exact h.keptNo (Kept.allocd w _)
theorem matV_two {w : World} {u v : Value} {X Y : Bs} (h : BytesV w u X) (h' : BytesV w v Y) : MatV (w.alloc (.cells #[u, v] 22)) (.slice (some ⟨w.heap.size, 0, none⟩) 2 2) [(u, X), (v, Y)] := by
  refine ⟨RowV.mk ⟨rfl, fun _ => ⟨_, rfl, fun j u hj => ?_⟩⟩ (Nat.le_refl _) (fun h => by cases h), fun p hp => ?_⟩
  · rw [addr_add, Nat.zero_add]
    exact cellB (heap_alloc_new w _) (by simpa using hj)
  · simp only [List.mem_cons, List.not_mem_nil, or_false] at hp
    rcases hp with rfl | rfl
    · exact h.keptNo (Kept.allocd w _)
    · exact h'.keptNo (Kept.allocd w _)
theorem sum_two (u v : Value) (X Y : Bs) : 0xffffffff ^^^ sumL 0xffffffff [(u, X), (v, Y)] = sumB (X ++ Y) := by
  unfold sumL sumB
  rw [sumS_app]
  rfl

set_option maxRecDepth 100000 in
set_option maxHeartbeats 1600000 in
theorem lawake (w : World) (hV : Vs w) :
    Calls Tryd.prog 13 #[] w fun e w' => e = .returned (.bool true) ∧ Kept NoBlock w w' := by
  have hk1 := Kept.allocd w (.cells #[.string ⟨#[107]⟩, .int .i64 1, .string ⟨#[118]⟩, .slice none 0 0, .slice none 0 0, .slice none 0 0, .int .i64 (-1)] 56)
  have hg1 := heap_alloc_new w (.cells #[.string ⟨#[107]⟩, .int .i64 1, .string ⟨#[118]⟩, .slice none 0 0, .slice none 0 0, .slice none 0 0, .int .i64 (-1)] 56)
  have hen := pEncode (w.alloc (.cells #[.string ⟨#[107]⟩, .int .i64 1, .string ⟨#[118]⟩, .slice none 0 0, .slice none 0 0, .slice none 0 0, .int .i64 (-1)] 56)) 7 0 3 0 (.slice (some ⟨w.heap.size, 0, none⟩) 1 1) [aM] (hV.kept hk1)
    ⟨RowK.one hg1 rfl rfl, fun m hm => by obtain rfl := List.mem_singleton.1 hm; exact ⟨RowV.nil _, RowK.nil _, RowK.nil _⟩⟩ (by decide) (by decide) (fun m hm => by obtain rfl := List.mem_singleton.1 hm; exact ⟨by decide, by decide, by decide, fun z hz => by cases hz⟩) (fun _ => by decide)
  rw [show List.map (fun m : EntM => m.e) [aM] = [aE] from rfl, aE_enc] at hen
  have hdx := dec_enc (id := 7) (off := 3) (l := [aE]) (by decide) (fun e he => by obtain rfl := List.mem_singleton.1 he; exact fun z hz => by cases hz) aE_enc
  have hxl : (writtenB 7 3 [aE] ++ leB 4 (sumB (writtenB 7 3 [aE]))).length ≤ 67108864 := by rw [List.length_append, leB_len]; decide
  generalize writtenB 7 3 [aE] ++ leB 4 (sumB (writtenB 7 3 [aE])) = X at *
  rw [show (((7 : Nat) : Int)) = 7 from rfl, show (((0 : Nat) : Int)) = 0 from rfl] at hen
  have hde := fun v w' (hk : Kept NoBlock w w') (hb : BytesV w' v X) => pDecode v X w' (hV.kept hk) hb hxl
  rw [hdx] at hde
  have HK1 := Lib.hid hk1
  have HEN := Lib.hid hen
  have HDE := Lib.hid hde
  have HV := Lib.hid hV
  clear hk1 hg1 hen hdx hxl hde hV
  go_enter Tryd.func13, Tryd.ntmps13
  go_wp2_with fail
  generalize w.alloc (.cells #[.string ⟨#[107]⟩, .int .i64 1, .string ⟨#[118]⟩, .slice none 0 0, .slice none 0 0, .slice none 0 0, .int .i64 (-1)] 56) = W1 at *
  (with_reducible refine HEN.out.mono ?_)
  rintro e w2 he
  obtain ⟨v, rfl, hown, hk⟩ := he
  obtain ⟨ap, cap, rfl, _⟩ := OwnM.form hown.t
  have HB := Lib.hid hown.bytes
  have HK2 := Lib.hid (HK1.out.trans hk)
  clear hown hk
  go_wp2_with fail
  (with_reducible refine (HDE.out _ w2 HK2.out HB.out).mono ?_)
  rintro e w3 ⟨hk, v3, ms, rfl, hms, hes⟩
  have HK3 := Lib.hid (HK2.out.trans hk)
  obtain ⟨ap3, cap3, rfl, _⟩ := hes.1.parts
  have hl1 : ms.length = 1 := by have := congrArg List.length hms; simpa using this
  obtain ⟨m, rfl⟩ : ∃ m, ms = [m] := by
    match ms, hl1 with
    | [m], _ => exact ⟨m, rfl⟩
  obtain rfl' : m.e = aE := by simpa using hms
  obtain ⟨ad, rfl, c0, c1, c2, c3, c4, c5, c6⟩ := RowK.at7 (hes.1.kept (Kept.allocd w3 (.cells #[.int .u64 7, .int .i64 3, .int .u64 0, .int .i64 0] 32))) (i := 0) rfl
  rw [rfl'] at c2
  simp only [aE, strV, Nat.zero_mul] at c2
  have had : ad.add 0 = ad := by simp [Addr.add]
  rw [had] at c2
  have c2 : (w3.alloc (.cells #[.int .u64 7, .int .i64 3, .int .u64 0, .int .i64 0] 32)).cell? ⟨ad.block, ad.off + 1 + 1, none⟩ = some (.string ⟨#[118]⟩) := c2
  have HK4 := Lib.hid (HK3.out.alloc (.cells #[.int .u64 7, .int .i64 3, .int .u64 0, .int .i64 0] 32))
  clear hk hes hms hl1 c0 c1 c3 c4 c5 c6 rfl' had
  have hcv : (convert 22 22 (.slice (some ⟨w3.heap.size + 1, 0, none⟩) 9 9)).run Tryd.prog ((w3.alloc (.cells #[.int .u64 7, .int .i64 3, .int .u64 0, .int .i64 0] 32)).alloc (.cells #[.int .u8 49, .int .u8 50, .int .u8 51, .int .u8 52, .int .u8 53, .int .u8 54, .int .u8 55, .int .u8 56, .int .u8 57] 5)) = .ok (.slice (some ⟨w3.heap.size + 1, 0, none⟩) 9 9) ((w3.alloc (.cells #[.int .u64 7, .int .i64 3, .int .u64 0, .int .i64 0] 32)).alloc (.cells #[.int .u8 49, .int .u8 50, .int .u8 51, .int .u8 52, .int .u8 53, .int .u8 54, .int .u8 55, .int .u8 56, .int .u8 57] 5 (9, 10))) :=
    Joins.run_convert_bytes_const_at (w3.alloc (.cells #[.int .u64 7, .int .i64 3, .int .u64 0, .int .i64 0] 32)) 22 5 #[.int .u8 49, .int .u8 50, .int .u8 51, .int .u8 52, .int .u8 53, .int .u8 54, .int .u8 55, .int .u8 56, .int .u8 57] 9 9 (w3.heap.size + 1) (by simp) Tryd.underlying22 Tryd.underlying5
  have hk5 := HK4.out.alloc (.cells #[.int .u8 49, .int .u8 50, .int .u8 51, .int .u8 52, .int .u8 53, .int .u8 54, .int .u8 55, .int .u8 56, .int .u8 57] 5 (9, 10))
  have ho5 := const_own (w3.alloc (.cells #[.int .u64 7, .int .i64 3, .int .u64 0, .int .i64 0] 32)) 5 [.int .u8 49, .int .u8 50, .int .u8 51, .int .u8 52, .int .u8 53, .int .u8 54, .int .u8 55, .int .u8 56, .int .u8 57] (by decide)
  have hb5 : BytesV ((w3.alloc (.cells #[.int .u64 7, .int .i64 3, .int .u64 0, .int .i64 0] 32)).alloc (.cells #[.int .u8 49, .int .u8 50, .int .u8 51, .int .u8 52, .int .u8 53, .int .u8 54, .int .u8 55, .int .u8 56, .int .u8 57] 5 (9, 10))) (.slice (some ⟨w3.heap.size + 1, 0, none⟩) 9 9) [49, 50, 51, 52, 53, 54, 55, 56, 57] := by
    have := OwnT.bytes (xs := [49, 50, 51, 52, 53, 54, 55, 56, 57]) ho5
    rw [World.size_alloc] at this
    exact this
  have hs5 : ((w3.alloc (.cells #[.int .u64 7, .int .i64 3, .int .u64 0, .int .i64 0] 32)).alloc (.cells #[.int .u8 49, .int .u8 50, .int .u8 51, .int .u8 52, .int .u8 53, .int .u8 54, .int .u8 55, .int .u8 56, .int .u8 57] 5 (9, 10))).heap.size = w3.heap.size + 1 + 1 := by simp
  have HK5 := Lib.hid hk5
  have HB5 := Lib.hid hb5
  have HS5 := Lib.hid hs5
  clear hk5 ho5 hb5 hs5
  go_wp2_with fail
  generalize (w3.alloc (.cells #[.int .u64 7, .int .i64 3, .int .u64 0, .int .i64 0] 32)).alloc (.cells #[.int .u8 49, .int .u8 50, .int .u8 51, .int .u8 52, .int .u8 53, .int .u8 54, .int .u8 55, .int .u8 56, .int .u8 57] 5 (9, 10)) = w5 at *
  have hmat := matV_one HB5.out
  have hps := psum _ _ _ (HV.out.kept (HK5.out.trans (Kept.allocd w5 _))) hmat (by simp) (fun p hp => by obtain rfl := List.mem_singleton.1 hp; simp)
  rw [sum_one, nine_sum, HS5.out] at hps
  rw [show (((3421780262 : Nat) : Int)) = 3421780262 from rfl] at hps
  have HPS := Lib.hid hps
  have HK6 := Lib.hid (HK5.out.alloc (.cells #[.slice (some ⟨w3.heap.size + 1, 0, none⟩) 9 9] 22))
  clear hmat hps
  (with_reducible refine HPS.out.mono ?_)
  rintro e w7 ⟨rfl, rfl⟩
  go_wp2_with fail
  go_ret
  exact ⟨rfl, HK6.out⟩

def cutB (b : Bs) : Bs := b.take 131072
set_option maxRecDepth 100000 in
theorem pcutB (v : Value) (b : Bs) (w : World) (h : BytesV w v b) :
    Calls Tryd.prog 10 #[v] w fun e w' => (∃ v', e = .returned v' ∧ BytesV w v' (cutB b) ∧ vblk v' = vblk v) ∧ w' = w := by
  obtain ⟨ap, cap, rfl, hcp, _⟩ := h.parts
  have H := Lib.hid h
  obtain ⟨n, hn⟩ : ∃ n, n = b.length := ⟨_, rfl⟩
  rw [← hn] at H hcp ⊢
  have HN := Lib.hid hn
  clear h hn
  by_cases hlt : 131072 < n
  · go_enter Tryd.func10, Tryd.ntmps10
    go_wp2_with fail
    go_ret
    exact ⟨⟨.slice ap 131072 cap, rfl, BytesV.front H.out 131072 (by omega), by rw [vblk_slice, vblk_slice]⟩, rfl⟩
  · go_enter Tryd.func10, Tryd.ntmps10
    go_wp2_with fail
    go_ret
    refine ⟨⟨_, rfl, ?_, rfl⟩, rfl⟩
    unfold cutB
    rw [List.take_of_length_le (by have := HN.out; omega)]
    exact H.out
theorem cutB_le (b : Bs) : (cutB b).length ≤ 131072 := by unfold cutB; rw [List.length_take]; omega
end Go.Proofs.YtfhlhpknobkplaaDoor
