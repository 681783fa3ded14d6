/- Merged: A reply's bytes, by the program: a line; A reply's bytes, by the program; A reply's bytes, by the program: rows; Encode. -/
import Derived.Test.YtpekeilpdbdnnaaDoorZYp3
import Derived.Lib.LaidTab
import Derived.Lib.AppendIntMem
import Derived.Lib.OthersKept
set_option linter.all false
namespace Go.Proofs.YtpekeilpdbdnnaaDoor
open Go.RowKit
attribute [local go_sem] fold_part fold_some fold_some' partAt_zero

/-- A block of bytes. -/
def U8 (w : World) (k : Nat) : Prop := ∃ cs fz, w.heap[k]? = some (.cells cs 5 fz)
/-- What a writer may turn: its box at g, and blocks of bytes from base on. -/
def WB (base : Nat) (G : Nat → Prop) (w w' : World) : Prop := Kept (fun k => G k ∨ (base ≤ k ∧ U8 w k)) w w'
theorem Kept.wb {w w' : World} (h : Kept NoBlock w w') (base : Nat) (G : Nat → Prop) : WB base G w w' := ⟨h.os, h.tape, h.output, h.size, fun k hk _ => h.block k hk (fun h => h)⟩
theorem WB.trans {base : Nat} {G H : Nat → Prop} {w w' w'' : World} (h : WB base G w w') (h' : WB base H w' w'') (hG : ∀ k, k < w.heap.size → H k → G k) : WB base G w w'' := by
  refine ⟨h'.os.trans h.os, h'.tape.trans h.tape, h'.output.trans h.output, Nat.le_trans h.size h'.size, fun k hk hn => ?_⟩
  have e := h.block k hk hn
  rw [h'.block k (Nat.lt_of_lt_of_le hk h.size) (fun hu => hn (by
    rcases hu with hu | ⟨hb, cs, fz, hu⟩
    · exact .inl (hG k hk hu)
    · exact .inr ⟨hb, cs, fz, by rw [← e]; exact hu⟩)), e]
theorem WB.mono {base : Nat} {G H : Nat → Prop} {w w' : World} (h : WB base G w w') (hG : ∀ k, k < w.heap.size → G k → H k) : WB base H w w' := Kept.mono h (fun k hk hu => hu.imp (hG k hk) (fun h => h))
theorem WB.heap {base : Nat} {G : Nat → Prop} {w w' : World} (h : WB base G w w') {k : Nat} {cs : Array Value} {T : TypeId} {fz : Nat × Nat} (hk : w.heap[k]? = some (.cells cs T fz)) (hg : ¬ G k) (hT : ¬ (T = 5)) : w'.heap[k]? = some (.cells cs T fz) :=
  Kept.heap h hk (fun hu => by
    rcases hu with h | ⟨_, cs', fz', h⟩
    · exact hg h
    · rw [hk] at h; cases h; exact hT rfl)
/-- A box at g that holds a row of bytes of the call's own. -/
def BW (w : World) (base g : Nat) (x : Bs) : Prop := ∃ v, w.heap[g]? = some (.cells #[v] 22 (0, 0)) ∧ OwnZ w base v x
theorem BW.kept {w w' : World} {base g : Nat} {x : Bs} (h : BW w base g x) (hk : Kept NoBlock w w') : BW w' base g x := by
  obtain ⟨v, h1, h2⟩ := h
  exact ⟨v, hk.heap h1 (fun h => h), h2.kept hk⟩
theorem grown_wb {base : Nat} {w w' : World} {v : Value} {x : Bs} (ho : OwnZ w base v x) (hg : w.grownBy w' v.ownBlock) : WB base (fun _ => False) w w' := by
  have ht := OwnM.typed ho.t
  have hl := OwnM.lt ho.t
  refine Kept.grown (S := fun k => False ∨ (base ≤ k ∧ U8 w k)) (Kept.refl _ w) hg (fun k e _ => .inr ⟨(hl k e).1, ?_⟩)
  have : vblk v = some k := by
    rcases ho.t.2 with ⟨rfl, _⟩ | ⟨g, cap, cur, fz, rfl, _⟩
    · simp [Value.ownBlock] at e
    · simpa [Value.ownBlock, vblk] using e
  exact ht k this

theorem WB.none {base : Nat} {G : Nat → Prop} {w w' w'' : World} (h : WB base G w w') (h' : WB base (fun _ => False) w' w'') : WB base G w w'' := h.trans h' (fun _ _ h => h.elim)
theorem bytes_new (w : World) (xs : Bs) : BytesV (w.alloc (.cells (xs.map bv).toArray 5)) (.slice (some ⟨w.heap.size, 0, none⟩) xs.length xs.length) xs := bytes_fresh w xs
theorem BW.store {w0 w : World} {base g : Nat} {v v0 : Value} {x : Bs} (hg : w.heap[g]? = some (.cells #[v0] 22 (0, 0))) (ho : OwnZ w base v x) : BW (w.setCell ⟨g, 0, none⟩ v) base g x := by
  have hk : Kept (fun k => k = g) w (w.setCell ⟨g, 0, none⟩ v) := Kept.setCell (S := fun k => k = g) (p := ⟨g, 0, none⟩) (Kept.refl _ w) (fun _ => rfl) _
  refine ⟨v, heap_setCell_same hg 0 v, ?_⟩
  refine ⟨ho.1, ?_⟩
  rcases ho.2 with hn | ⟨b, cap, cur, rfl, hb, hc, rest⟩
  · exact .inl hn
  · exact .inr ⟨b, cap, cur, rfl, hb, hk.heap hc (fun e => by subst e; rw [hg] at hc; cases hc), rest⟩

set_option maxRecDepth 100000 in
theorem pline (base g : Nat) (w : World) (x s : Bs) (c : UInt8) (h : BW w base g x) (hb : base ≤ w.heap.size) (hl : x.length + s.length + 3 ≤ 1000000000) :
    Calls Tryd.prog 47 #[.int .u8 c.toNat, strV s, .pointer (some ⟨g, 0, none⟩)] w fun e w' => (∃ u, e = .returned u) ∧ BW w' base g (x ++ (c :: (s ++ [13, 10]))) ∧ WB base (fun k => k = g) w w' := by
  obtain ⟨v, hg, ho⟩ := h
  obtain ⟨ap, cap, rfl, _⟩ := OwnM.form ho.t
  obtain ⟨c0, f0⟩ := blk1' hg
  obtain ⟨S, hS⟩ : ∃ S : ByteArray, S = ⟨s.toArray⟩ := ⟨_, rfl⟩
  unfold strV
  rw [← hS]
  have HS := Lib.hid hS
  have HG := Lib.hid hg
  have HO := Lib.hid ho
  have hka := Kept.allocd w (.cells #[.int .u8 c.toNat] 5)
  have HKA := Lib.hid hka
  have HB1 := Lib.hid (bytes_new w [c])
  have HO1 := Lib.hid (ho.kept hka)
  obtain ⟨n, hn⟩ : ∃ n, n = x.length := ⟨_, rfl⟩
  rw [← hn] at c0 HG HO HO1 hl
  have HN := Lib.hid hn
  clear hS hg ho hn hka
  simp only [List.map_cons, List.map_nil, List.length_cons, List.length_nil, bv, Nat.zero_add] at HB1
  go_enter Tryd.func47, Tryd.ntmps47
  go_wp2_with (at_builtin; refine wpList_appZL rfl _ _ (by rfl) base _ x (by rfl) HO1.out _ [c] (by rfl) HB1.out (by have := HN.out; simp; omega) (by simp; omega) ?_; intro v' w2 hown hgr; refine Hid.out ?_)
  have hw2 : WB base (fun _ => False) w w2 := (HKA.out.wb base (fun _ => False)).none (grown_wb HO1.out hgr)
  have hb2 : base ≤ w2.heap.size := Nat.le_trans hb hw2.size
  have HOW := Lib.hid hown
  have HW2 := Lib.hid hw2
  clear hown hgr hw2 HKA HB1 HO1 HO c0 f0
  refine Lib.hid ?_
  go_wp2_with (at_builtin; refine wpList_appZ rfl _ _ (by rfl) base _ (x ++ [c]) (by rfl) HOW.out s S HS.out (by rfl) (by have := HN.out; simp; omega) hb2 ?_; intro v3 w3 hown hgr; refine Hid.out ?_)
  have hw3 := HW2.out.none (grown_wb HOW.out hgr)
  have hb3 : base ≤ w3.heap.size := Nat.le_trans hb hw3.size
  have hka := Kept.allocd w3 (.cells #[.int .u8 13, .int .u8 10] 5)
  have HW4 := Lib.hid (hw3.none (hka.wb base (fun _ => False)))
  have HB1 := Lib.hid (bytes_new w3 [13, 10])
  have HO1 := Lib.hid (hown.kept hka)
  clear hown hgr hw3 hka HOW HW2 hb2
  simp only [List.map_cons, List.map_nil, List.length_cons, List.length_nil, bv, Nat.zero_add, Nat.reduceAdd] at HB1
  refine Lib.hid ?_
  go_wp2_with (at_builtin; refine wpList_appZL rfl _ _ (by rfl) base _ (x ++ [c] ++ s) (by rfl) HO1.out _ [13, 10] (by rfl) HB1.out (by have := HN.out; simp; omega) (by simp; omega) ?_; intro v5 w5 hown hgr; refine Hid.out ?_)
  have hw5 := HW4.out.none (grown_wb HO1.out hgr)
  have hg5 := hw5.heap HG.out (fun h => h) (by decide)
  obtain ⟨c0, f0⟩ := blk1' hg5
  have hbw := BW.store (w0 := w) hg5 hown
  have hws : WB base (fun k => k = g) w (w5.setCell ⟨g, 0, none⟩ v5) := Kept.setCell (S := fun k => k = g ∨ (base ≤ k ∧ U8 w k)) (p := ⟨g, 0, none⟩) (hw5.mono (fun k _ h => h.elim)) (fun _ => .inl rfl) _
  have HBW := Lib.hid hbw
  have HWS := Lib.hid hws
  obtain ⟨ap5, cap5, rfl, _⟩ := OwnM.form hown.t
  generalize (x ++ [c] ++ s ++ [13, 10]).length = m5 at *
  clear hown hgr hw5 hg5 hbw hws HW4 HB1 HO1 HG
  refine Lib.hid ?_
  go_wp2_with fail
  refine bodyPost_end (results_none rfl _ _ _) rfl ⟨⟨_, rfl⟩, ?_, HWS.out⟩
  have := HBW.out
  simpa using this
end Go.Proofs.YtpekeilpdbdnnaaDoor
namespace Go.Proofs.YtpekeilpdbdnnaaDoor
open Go.RowKit
attribute [local go_sem] fold_part fold_some fold_some' partAt_zero

/-- The library's table lay there ahead of base, and lies there. -/
def VsB (w : World) (base : Nat) : Prop := ∃ w0 : World, Lib.TabIs Tryd.prog w0 "internal/strconv.uint64pow10" .u64 Lib.pow10Tab ∧ w0.heap.size ≤ base ∧ base ≤ w.heap.size ∧ Below w0.heap.size w0 w
theorem VsB.size {w : World} {base : Nat} (h : VsB w base) : base ≤ w.heap.size := by obtain ⟨_, _, _, h, _⟩ := h; exact h
theorem VsB.tab {w : World} {base : Nat} (h : VsB w base) : Lib.TabIs Tryd.prog w "internal/strconv.uint64pow10" .u64 Lib.pow10Tab := by
  obtain ⟨w0, h1, _, _, h2⟩ := h
  exact (Lib.tabBelow_of_tabIs h1) w h2
theorem VsB.keptS {S : Nat → Prop} {w w' : World} {base : Nat} (h : VsB w base) (hk : Kept S w w') (hS : ∀ k, S k → base ≤ k) : VsB w' base := by
  obtain ⟨w0, h1, h2, h3, h4⟩ := h
  refine ⟨w0, h1, h2, Nat.le_trans h3 hk.size, ?_⟩
  have hk' : Kept (fun k => base ≤ k) w w' := hk.mono (fun k _ h => hS k h)
  exact (((Kept.of_below (S := fun k => base ≤ k ∨ w0.heap.size ≤ k) h4 (fun k _ h => .inr h)).trans' hk' (fun i _ h => .inl h))).below (Nat.le_refl _) (fun i h => by omega)
theorem VsB.kept {w w' : World} {base : Nat} (h : VsB w base) (hk : Kept NoBlock w w') : VsB w' base := h.keptS hk (fun _ h => h.elim)
theorem VsB.wb {base : Nat} {G : Nat → Prop} {w w' : World} (h : VsB w base) (hk : WB base G w w') (hG : ∀ k, G k → base ≤ k) : VsB w' base := h.keptS hk (fun k hu => hu.elim (hG k) (fun h => h.1))
theorem pfmt (n : Int) (h0 : -9223372036854775808 ≤ n) (h1 : n ≤ 9223372036854775807) (w : World) (base : Nat) (hV : VsB w base) :
    Calls Tryd.prog 48 #[.int .i64 n, .int .i64 10] w fun e w' => e = .returned (strV (Lib.itoa n)) ∧ Kept NoBlock w w' := by
  refine (Tryd.strconv_FormatInt_10 n h0 h1 w hV.tab).mono ?_
  rintro e w' ⟨rfl, k, os, rfl⟩
  exact ⟨rfl, Kept.ofB (Lib.below_grow _ _ (Nat.le_refl _) _ _)⟩
theorem pitoa (n : Int) (h0 : -9223372036854775808 ≤ n) (h1 : n ≤ 9223372036854775807) (w : World) (base : Nat) (hV : VsB w base) :
    Calls Tryd.prog 49 #[.int .i64 n] w fun e w' => e = .returned (strV (Lib.itoa n)) ∧ Kept NoBlock w w' := by
  refine (Tryd.strconv_Itoa n h0 h1 w hV.tab).mono ?_
  rintro e w' ⟨rfl, k, os, rfl⟩
  exact ⟨rfl, Kept.ofB (Lib.below_grow _ _ (Nat.le_refl _) _ _)⟩

/-- A block that a writer does not turn. -/
def SafeB (base : Nat) (w : World) (j : Nat) : Prop := j < base ∨ ¬ U8 w j
theorem GoodM.wb {w w' : World} {base : Nat} {G : Nat → Prop} {m : RepM} (h : GoodM w (SafeB base w) m) (hk : WB base G w w') (hG : ∀ k, k < w.heap.size → ¬ G k) : GoodM w' (SafeB base w') m :=
  h.kept hk (fun j hj hP hS => by
    rcases hS with h | ⟨hb, hu⟩
    · exact hG j hj h
    · rcases hP with hP | hP
      · omega
      · exact hP hu) (fun j hj hP => by
    rcases hP with hP | hP
    · exact .inl hP
    · refine .inr fun hu => hP ?_
      obtain ⟨cs, fz, hu⟩ := hu
      refine ⟨cs, fz, ?_⟩
      rw [← hu]
      exact (hk.block j hj (fun hS => by
        rcases hS with h | ⟨hb, hu⟩
        · exact hG j hj h
        · exact hP hu)).symm)

theorem bytesL_append : ∀ (a b : List Rep), bytesL (a ++ b) = bytesL a ++ bytesL b
  | [], b => by rw [bytesL]; rfl
  | x :: a, b => by rw [List.cons_append, bytesL, bytesL, bytesL_append a b, List.append_assoc]
def bytesM (l : List RepM) : Bs := bytesL (l.map RepM.rep)
theorem bytesM_nil : bytesM [] = [] := by unfold bytesM; rw [List.map_nil, bytesL]
theorem bytesM_next {l : List RepM} {i : Nat} {a : RepM} (ha : l[i]? = some a) : bytesM (l.take (i + 1)) = bytesM (l.take i) ++ bytesR a.rep := by
  unfold bytesM
  rw [List.take_add_one, ha, List.map_append, bytesL_append]
  congr 1
  simp [bytesL]
theorem bytesM_le (l : List RepM) (i : Nat) : (bytesM (l.take i)).length ≤ (bytesM l).length := by
  have : bytesM l = bytesM (l.take i) ++ bytesM (l.drop i) := by
    unfold bytesM
    rw [← bytesL_append, ← List.map_append, List.take_append_drop]
  rw [this, List.length_append]
  omega
theorem bytes_eq (m : RepM) : bytesR m.rep =
    if m.k = 1 then 43 :: (m.s ++ [13, 10])
    else if m.k = 2 then 45 :: (m.s ++ [13, 10])
    else if m.k = 3 then 58 :: (Lib.itoa m.n ++ [13, 10])
    else if m.k = 4 then 36 :: (Lib.itoa m.s.length ++ ([13, 10] ++ (m.s ++ [13, 10])))
    else if m.k = 5 then [36, 45, 49, 13, 10]
    else if m.k = 7 then [42, 45, 49, 13, 10]
    else 42 :: (Lib.itoa m.l.length ++ ([13, 10] ++ bytesM m.l)) := by
  rw [m.rep_eq, bytesR, List.length_map]
  rfl

/-- The two boxes of a writer. -/
def W2 (w : World) (v : Value) (m : RepM) : World := (w.alloc (.cells #[v] 22)).alloc (.cells #[.int .i64 m.k, strV m.s, .int .i64 m.n, m.v] 26)
theorem W2_kept (w : World) (v : Value) (m : RepM) : Kept NoBlock w (W2 w v m) := ((Kept.refl NoBlock w).alloc _).alloc _
theorem W2_size (w : World) (v : Value) (m : RepM) : (W2 w v m).heap.size = w.heap.size + 2 := by simp [W2]
theorem W2_b0 (w : World) (v : Value) (m : RepM) : (W2 w v m).heap[w.heap.size]? = some (.cells #[v] 22 (0, 0)) := by
  unfold W2
  rw [heap_alloc_lt _ (by simp), heap_alloc_new]
theorem W2_b1 (w : World) (v : Value) (m : RepM) : (W2 w v m).heap[w.heap.size + 1]? = some (.cells #[.int .i64 m.k, strV m.s, .int .i64 m.n, m.v] 26 (0, 0)) := by
  have := heap_alloc_new (w.alloc (.cells #[v] 22)) (.cells #[.int .i64 m.k, strV m.s, .int .i64 m.n, m.v] 26)
  rw [World.size_alloc] at this
  exact this
/-- The world in a writer, behind what it has written. -/
structure WrW (w : World) (base : Nat) (m : RepM) (y : Bs) (wr : World) : Prop where
  wb : WB base (fun k => w.heap.size ≤ k) w wr
  bw : BW wr base w.heap.size y
  b1 : wr.heap[w.heap.size + 1]? = some (.cells #[.int .i64 m.k, strV m.s, .int .i64 m.n, m.v] 26 (0, 0))
theorem WrW.kept {w : World} {base : Nat} {m : RepM} {y : Bs} {wr w' : World} (h : WrW w base m y wr) (hk : Kept NoBlock wr w') : WrW w base m y w' :=
  ⟨h.wb.none (hk.wb base _), h.bw.kept hk, hk.heap h.b1 (fun h => h)⟩
theorem WrW.start {w : World} {base : Nat} {v : Value} {x : Bs} (ho : OwnZ w base v x) (m : RepM) : WrW w base m x (W2 w v m) :=
  ⟨(W2_kept w v m).wb base _, ⟨v, W2_b0 w v m, ho.kept (W2_kept w v m)⟩, W2_b1 w v m⟩
theorem WrW.line {w : World} {base : Nat} {m : RepM} {y y' : Bs} {wr w' : World} (h : WrW w base m y wr) (hb : BW w' base w.heap.size y') (hk : WB base (fun k => k = w.heap.size) wr w') : WrW w base m y' w' :=
  ⟨h.wb.trans hk (fun k _ e => by omega), hb, hk.heap h.b1 (by omega) (by decide)⟩
theorem WrW.fin {w : World} {base : Nat} {m : RepM} {y : Bs} {wr : World} (h : WrW w base m y wr) : ∃ v, wr.cell? ⟨w.heap.size, 0, none⟩ = some v ∧ OwnZ wr base v y ∧ WB base (fun _ => False) w wr := by
  obtain ⟨v, h1, h2⟩ := h.bw
  exact ⟨v, (blk1' h1).1, h2, h.wb.mono (fun k hk h => by omega)⟩

def WEnd (w : World) (base : Nat) (y : Bs) (e : Ending) (w' : World) : Prop := ∃ v', e = .returned v' ∧ OwnZ w' base v' y ∧ WB base (fun _ => False) w w'
theorem decDigits_len (u : Nat) : (Lib.decDigits u).length ≤ u + 1 := by
  induction u using Nat.strongRecOn with
  | ind u ih =>
    rw [Lib.decDigits]
    by_cases h : u < 10
    · rw [dif_pos h]; simp
    · rw [dif_neg h, List.length_append]
      have := ih (u / 10) (by omega)
      simp only [List.length_singleton]
      omega
set_option maxRecDepth 100000 in
theorem pwrite_text (m : RepM) (hk : m.k = 1 ∨ m.k = 2) (base : Nat) (v : Value) (x : Bs) (w : World) (ho : OwnZ w base v x) (hV : VsB w base) (hf : FitM m) (hl : x.length + (bytesR m.rep).length ≤ 1000000000) :
    Calls Tryd.prog 25 #[v, repA m] w (WEnd w base (x ++ bytesR m.rep)) := by
  have hst := WrW.start ho m
  have hsz : base ≤ w.heap.size := hV.size
  have hV2 := hV.kept (W2_kept w v m)
  obtain ⟨ap, cap, rfl, _⟩ := OwnM.form ho.t
  have hx : x.length ≤ 1000000000 := by omega
  rcases hk with hk | hk
  · skip
    have he : bytesR m.rep = 43 :: (m.s ++ [13, 10]) := by rw [bytes_eq, if_pos hk]
    rw [he] at hl ⊢
    have hln := pline base w.heap.size (W2 w (.slice ap x.length cap) m) x m.s 43 hst.bw (by rw [W2_size]; omega) (by simp at hl ⊢; omega)
    rw [show (((43 : UInt8).toNat : Int)) = 43 from rfl] at hln
    have HL := Lib.hid hln
    have HST := Lib.hid hst
    generalize hn : x.length = n at *
    clear he hl hln hst ho hV hV2 hn
    unfold W2 at HL HST
    unfold repA
    rw [hk] at HL HST ⊢
    go_enter Tryd.func25, Tryd.ntmps25
    go_wp2_with fail
    refine HL.out.mono ?_
    rintro e w2 ⟨⟨u, rfl⟩, hbw, hwb⟩
    obtain ⟨v9, c9, ho9, hw9⟩ := (HST.out.line hbw hwb).fin
    have H9 := Lib.hid ho9
    have HW := Lib.hid hw9
    clear hbw hwb ho9 hw9 HL HST
    go_wp2_with fail
    go_ret
    exact ⟨_, rfl, H9.out, HW.out⟩
  · skip
    have he : bytesR m.rep = 45 :: (m.s ++ [13, 10]) := by rw [bytes_eq, if_neg (by omega), if_pos hk]
    rw [he] at hl ⊢
    have hln := pline base w.heap.size (W2 w (.slice ap x.length cap) m) x m.s 45 hst.bw (by rw [W2_size]; omega) (by simp at hl ⊢; omega)
    rw [show (((45 : UInt8).toNat : Int)) = 45 from rfl] at hln
    have HL := Lib.hid hln
    have HST := Lib.hid hst
    generalize hn : x.length = n at *
    clear he hl hln hst ho hV hV2 hn
    unfold W2 at HL HST
    unfold repA
    rw [hk] at HL HST ⊢
    go_enter Tryd.func25, Tryd.ntmps25
    go_wp2_with fail
    refine HL.out.mono ?_
    rintro e w2 ⟨⟨u, rfl⟩, hbw, hwb⟩
    obtain ⟨v9, c9, ho9, hw9⟩ := (HST.out.line hbw hwb).fin
    have H9 := Lib.hid ho9
    have HW := Lib.hid hw9
    clear hbw hwb ho9 hw9 HL HST
    go_wp2_with fail
    go_ret
    exact ⟨_, rfl, H9.out, HW.out⟩
set_option maxRecDepth 100000 in
theorem pwrite_nil (m : RepM) (hk : m.k = 5 ∨ m.k = 7) (base : Nat) (v : Value) (x : Bs) (w : World) (ho : OwnZ w base v x) (hV : VsB w base) (hf : FitM m) (hl : x.length + (bytesR m.rep).length ≤ 1000000000) :
    Calls Tryd.prog 25 #[v, repA m] w (WEnd w base (x ++ bytesR m.rep)) := by
  have hst := WrW.start ho m
  have hsz : base ≤ w.heap.size := hV.size
  have hV2 := hV.kept (W2_kept w v m)
  obtain ⟨ap, cap, rfl, _⟩ := OwnM.form ho.t
  have hx : x.length ≤ 1000000000 := by omega
  rcases hk with hk | hk
  · skip
    have he : bytesR m.rep = 36 :: ([45, 49] ++ [13, 10]) := by rw [bytes_eq, if_neg (by omega), if_neg (by omega), if_neg (by omega), if_neg (by omega), if_pos hk]; rfl
    rw [he] at hl ⊢
    have hln := pline base w.heap.size (W2 w (.slice ap x.length cap) m) x [45, 49] 36 hst.bw (by rw [W2_size]; omega) (by simp at hl ⊢; omega)
    rw [show (((36 : UInt8).toNat : Int)) = 36 from rfl] at hln
    have HL := Lib.hid hln
    have HST := Lib.hid hst
    generalize hn : x.length = n at *
    clear he hl hln hst ho hV hV2 hn
    unfold W2 at HL HST
    unfold repA
    unfold strV at HL
    rw [hk] at HL HST ⊢
    go_enter Tryd.func25, Tryd.ntmps25
    go_wp2_with fail
    refine HL.out.mono ?_
    rintro e w2 ⟨⟨u, rfl⟩, hbw, hwb⟩
    obtain ⟨v9, c9, ho9, hw9⟩ := (HST.out.line hbw hwb).fin
    have H9 := Lib.hid ho9
    have HW := Lib.hid hw9
    clear hbw hwb ho9 hw9 HL HST
    go_wp2_with fail
    go_ret
    exact ⟨_, rfl, H9.out, HW.out⟩
  · skip
    have he : bytesR m.rep = 42 :: ([45, 49] ++ [13, 10]) := by rw [bytes_eq, if_neg (by omega), if_neg (by omega), if_neg (by omega), if_neg (by omega), if_neg (by omega), if_pos hk]; rfl
    rw [he] at hl ⊢
    have hln := pline base w.heap.size (W2 w (.slice ap x.length cap) m) x [45, 49] 42 hst.bw (by rw [W2_size]; omega) (by simp at hl ⊢; omega)
    rw [show (((42 : UInt8).toNat : Int)) = 42 from rfl] at hln
    have HL := Lib.hid hln
    have HST := Lib.hid hst
    generalize hn : x.length = n at *
    clear he hl hln hst ho hV hV2 hn
    unfold W2 at HL HST
    unfold repA
    unfold strV at HL
    rw [hk] at HL HST ⊢
    go_enter Tryd.func25, Tryd.ntmps25
    go_wp2_with fail
    refine HL.out.mono ?_
    rintro e w2 ⟨⟨u, rfl⟩, hbw, hwb⟩
    obtain ⟨v9, c9, ho9, hw9⟩ := (HST.out.line hbw hwb).fin
    have H9 := Lib.hid ho9
    have HW := Lib.hid hw9
    clear hbw hwb ho9 hw9 HL HST
    go_wp2_with fail
    go_ret
    exact ⟨_, rfl, H9.out, HW.out⟩
set_option maxRecDepth 100000 in
theorem pwrite_int (m : RepM) (hk : m.k = 3) (base : Nat) (v : Value) (x : Bs) (w : World) (ho : OwnZ w base v x) (hV : VsB w base) (hf : FitM m) (hl : x.length + (bytesR m.rep).length ≤ 1000000000) :
    Calls Tryd.prog 25 #[v, repA m] w (WEnd w base (x ++ bytesR m.rep)) := by
  have hst := WrW.start ho m
  have hsz : base ≤ w.heap.size := hV.size
  have hV2 := hV.kept (W2_kept w v m)
  obtain ⟨ap, cap, rfl, _⟩ := OwnM.form ho.t
  have hx : x.length ≤ 1000000000 := by omega
  have he : bytesR m.rep = 58 :: (Lib.itoa m.n ++ [13, 10]) := by rw [bytes_eq, if_neg (by omega), if_neg (by omega), if_pos hk]
  rw [he] at hl ⊢
  have hfm := pfmt m.n hf.n0 hf.n1 _ base hV2
  have hln := fun w' (hk : Kept NoBlock (W2 w (.slice ap x.length cap) m) w') => pline base w.heap.size w' x (Lib.itoa m.n) 58 (hst.bw.kept hk) (by have := hk.size; rw [W2_size] at this; omega) (by simp at hl ⊢; omega)
  rw [show (((58 : UInt8).toNat : Int)) = 58 from rfl] at hln
  have HF := Lib.hid hfm
  have HL := Lib.hid hln
  have HST := Lib.hid hst
  generalize hn : x.length = n at *
  generalize Lib.itoa m.n = D at *
  clear he hl hln hst ho hV hV2 hn hfm hf
  unfold W2 at HF HL HST
  unfold repA
  rw [hk] at HF HL HST ⊢
  go_enter Tryd.func25, Tryd.ntmps25
  go_wp2_with fail
  refine HF.out.mono ?_
  rintro e w1 ⟨rfl, hk1⟩
  have HL1 := Lib.hid (HL.out w1 hk1)
  have HST1 := Lib.hid (HST.out.kept hk1)
  clear hk1
  go_wp2_with fail
  refine HL1.out.mono ?_
  rintro e w2 ⟨⟨u, rfl⟩, hbw, hwb⟩
  obtain ⟨v9, c9, ho9, hw9⟩ := (HST1.out.line hbw hwb).fin
  have H9 := Lib.hid ho9
  have HW := Lib.hid hw9
  clear hbw hwb ho9 hw9 HL HST HL1 HST1 HF
  go_wp2_with fail
  go_ret
  exact ⟨_, rfl, H9.out, HW.out⟩
set_option maxRecDepth 100000 in
theorem pwrite_bulk (m : RepM) (hk : m.k = 4) (base : Nat) (v : Value) (x : Bs) (w : World) (ho : OwnZ w base v x) (hV : VsB w base) (hf : FitM m) (hl : x.length + (bytesR m.rep).length ≤ 1000000000) :
    Calls Tryd.prog 25 #[v, repA m] w (WEnd w base (x ++ bytesR m.rep)) := by
  have hst := WrW.start ho m
  have hsz : base ≤ w.heap.size := hV.size
  have hV2 := hV.kept (W2_kept w v m)
  obtain ⟨ap, cap, rfl, _⟩ := OwnM.form ho.t
  have hx : x.length ≤ 1000000000 := by omega
  have he : bytesR m.rep = 36 :: (Lib.itoa m.s.length ++ ([13, 10] ++ (m.s ++ [13, 10]))) := by rw [bytes_eq, if_neg (by omega), if_neg (by omega), if_neg (by omega), if_pos hk]
  rw [he] at hl ⊢
  have hsl := hf.s
  have hfm := pitoa m.s.length (by omega) (by omega) _ base hV2
  have hln := fun w' (hk : Kept NoBlock (W2 w (.slice ap x.length cap) m) w') => pline base w.heap.size w' x (Lib.itoa m.s.length) 36 (hst.bw.kept hk) (by have := hk.size; rw [W2_size] at this; omega) (by simp at hl ⊢; omega)
  rw [show (((36 : UInt8).toNat : Int)) = 36 from rfl] at hln
  obtain ⟨S, hS⟩ : ∃ S : ByteArray, S = ⟨m.s.toArray⟩ := ⟨_, rfl⟩
  have hSz := str_size hS
  obtain ⟨sl, hsl2⟩ : ∃ sl, sl = S.size := ⟨_, rfl⟩
  rw [← hSz] at hfm hln
  have HF := Lib.hid hfm
  have HL := Lib.hid hln
  have HST := Lib.hid hst
  obtain ⟨D, hD⟩ : ∃ D, D = Lib.itoa m.s.length := ⟨_, rfl⟩
  rw [hSz] at HF HL
  rw [← hD] at HF HL hl ⊢
  have HSZ := Lib.hid hSz
  rw [← hSz] at HF hsl
  have HHL := Lib.hid hl
  generalize hn : x.length = n at *
  have HN := Lib.hid hn
  have HS := Lib.hid hS
  clear he hl hln hst ho hV hV2 hn hfm hf hD hsl2 hSz
  unfold W2 at HF HL HST
  unfold repA
  unfold strV at HF HL HST ⊢
  rw [hk, ← hS] at HF HL HST ⊢
  clear hS
  go_enter Tryd.func25, Tryd.ntmps25
  go_wp2_with fail
  refine HF.out.mono ?_
  rintro e w1 ⟨rfl, hk1⟩
  have HL1 := Lib.hid (HL.out w1 hk1)
  have HST1 := Lib.hid (HST.out.kept hk1)
  clear hk1
  go_wp2_with fail
  refine HL1.out.mono ?_
  rintro e w2 ⟨⟨u, rfl⟩, hbw, hwb⟩
  have hst2 := HST1.out.line hbw hwb
  obtain ⟨v2, hg2, ho2⟩ := hst2.bw
  obtain ⟨c0, f0⟩ := blk1' hg2
  have hb1 := hst2.b1
  rw [hk] at hb1
  unfold strV at hb1
  rw [← HS.out] at hb1
  obtain ⟨d0, d1, d2, d3⟩ := blk4 hb1
  have hb2 : base ≤ w2.heap.size := by have := lt_of_heap hg2; omega
  have HST2 := Lib.hid hst2
  have HO2 := Lib.hid ho2
  have HG2 := Lib.hid hg2
  clear hbw hwb hst2 hb1 ho2 hg2 HF HL HL1 HST HST1
  go_wp2_with (at_builtin; refine wpList_appZ rfl _ _ (by rfl) base _ (x ++ 36 :: (D ++ [13, 10])) (by rfl) HO2.out m.s S HS.out (by rfl) (by have := HHL.out; have := HN.out; simp at *; omega) hb2 ?_; intro v3 w3 hown hgr; refine Hid.out ?_)
  have hw3 : WB base (fun _ => False) w2 w3 := grown_wb HO2.out hgr
  have hb3 : base ≤ w3.heap.size := Nat.le_trans hb2 hw3.size
  have hka := Kept.allocd w3 (.cells #[.int .u8 13, .int .u8 10] 5)
  have HW4 := Lib.hid (hw3.none (hka.wb base (fun _ => False)))
  have HB1 := Lib.hid (bytes_new w3 [13, 10])
  have HO1 := Lib.hid (hown.kept hka)
  clear hown hgr hw3 hka HO2 c0 f0
  simp only [List.map_cons, List.map_nil, List.length_cons, List.length_nil, bv, Nat.zero_add, Nat.reduceAdd] at HB1
  refine Lib.hid ?_
  go_wp2_with (at_builtin; refine wpList_appZL rfl _ _ (by rfl) base _ (x ++ 36 :: (D ++ [13, 10]) ++ m.s) (by rfl) HO1.out _ [13, 10] (by rfl) HB1.out (by have := HHL.out; have := HN.out; simp at *; omega) (by simp; omega) ?_; intro v5 w5 hown hgr; refine Hid.out ?_)
  have hw5 := HW4.out.none (grown_wb HO1.out hgr)
  have hg5 := hw5.heap HG2.out (fun h => h) (by decide)
  obtain ⟨c0, f0⟩ := blk1' hg5
  have hbw := BW.store (w0 := w) hg5 hown
  have hws : WB base (fun k => k = w.heap.size) w2 (w5.setCell ⟨w.heap.size, 0, none⟩ v5) := Kept.setCell (S := fun k => k = w.heap.size ∨ (base ≤ k ∧ U8 w2 k)) (p := ⟨w.heap.size, 0, none⟩) (hw5.mono (fun k _ h => h.elim)) (fun _ => .inl rfl) _
  have HST6 := Lib.hid (HST2.out.line hbw hws)
  obtain ⟨ap5, cap5, rfl, _⟩ := OwnM.form hown.t
  obtain ⟨v9, c9, ho9, hw9⟩ := HST6.out.fin
  have H9 := Lib.hid ho9
  have HW := Lib.hid hw9
  generalize (x ++ 36 :: (D ++ [13, 10]) ++ m.s ++ [13, 10]).length = m5 at *
  clear hown hgr hw5 hg5 hbw hws HW4 HB1 HO1 HG2 HST2 HST6 d0 d1 d2 d3 ho9 hw9
  refine Lib.hid ?_
  go_wp2_with fail
  go_ret
  refine ⟨_, rfl, ?_, HW.out⟩
  have := H9.out
  simpa using this
def PW (m : RepM) : Prop := ∀ (base : Nat) (v : Value) (x : Bs) (w : World), OwnZ w base v x → VsB w base → GoodM w (SafeB base w) m → FitM m → x.length + (bytesR m.rep).length ≤ 1000000000 →
    Calls Tryd.prog 25 #[v, repA m] w (WEnd w base (x ++ bytesR m.rep))
end Go.Proofs.YtpekeilpdbdnnaaDoor
namespace Go.Proofs.YtpekeilpdbdnnaaDoor
open Go.RowKit
attribute [local go_sem] fold_part fold_some fold_some' partAt_zero

theorem WrW.good {w : World} {base : Nat} {m : RepM} {y : Bs} {wr : World} (h : WrW w base m y wr) {a : RepM} (ha : GoodM w (SafeB base w) a) : GoodM wr (SafeB base wr) a := ha.wb h.wb (fun k hk hG => by omega)
theorem WrW.vs {w : World} {base : Nat} {m : RepM} {y : Bs} {wr : World} (h : WrW w base m y wr) (hV : VsB w base) : VsB wr base := hV.wb h.wb (fun k hk => by have := hV.size; omega)
theorem RowK.len {α : Type} {k : Nat} {f : α → List Value} {w : World} {ap : Option Addr} {n cap : Nat} {xs : List α} (h : RowK k f w (.slice ap n cap) xs) : n = xs.length := by
  obtain ⟨_, _, e, _⟩ := h
  cases e
  rfl
theorem row_wb {w : World} {base : Nat} {m : RepM} {y : Bs} {wr : World} (h : WrW w base m y wr) (hg : GoodM w (SafeB base w) m) : RowK 4 rCells wr m.v m.l := (h.good hg).row
/-- What the recursive call leaves. -/
theorem WrW.call {w : World} {base : Nat} {m : RepM} {y y' : Bs} {wr w' : World} {v' : Value} (h : WrW w base m y wr) (ho : OwnZ w' base v' y') (hk : WB base (fun _ => False) wr w') :
    WrW w base m y' (w'.setCell ⟨w.heap.size, 0, none⟩ v') := by
  obtain ⟨v, hg, _⟩ := h.bw
  have hg2 := hk.heap hg (fun h => h) (by decide)
  have hws : WB base (fun k => k = w.heap.size) wr (w'.setCell ⟨w.heap.size, 0, none⟩ v') := Kept.setCell (S := fun k => k = w.heap.size ∨ (base ≤ k ∧ U8 wr k)) (p := ⟨w.heap.size, 0, none⟩) (hk.mono (fun k _ h => h.elim)) (fun _ => .inl rfl) _
  exact h.line (BW.store (w0 := w) hg2 ho) hws

set_option maxRecDepth 100000 in
set_option maxHeartbeats 1600000 in
theorem pwrite_arr (m : RepM) (ih : ∀ x ∈ m.l, PW x) (hk : ¬ m.k = 1 ∧ ¬ m.k = 2 ∧ ¬ m.k = 3 ∧ ¬ m.k = 4 ∧ ¬ m.k = 5 ∧ ¬ m.k = 7) (base : Nat) (v : Value) (x : Bs) (w : World) (ho : OwnZ w base v x) (hV : VsB w base) (hg : GoodM w (SafeB base w) m) (hf : FitM m) (hl : x.length + (bytesR m.rep).length ≤ 1000000000) :
    Calls Tryd.prog 25 #[v, repA m] w (WEnd w base (x ++ bytesR m.rep)) := by
  have hst := WrW.start ho m
  have hsz : base ≤ w.heap.size := hV.size
  have hV2 := hV.kept (W2_kept w v m)
  obtain ⟨ap, cap, rfl, _⟩ := OwnM.form ho.t
  obtain ⟨k1, k2, k3, k4, k5, k7⟩ := hk
  have he : bytesR m.rep = 42 :: (Lib.itoa m.l.length ++ ([13, 10] ++ bytesM m.l)) := by rw [bytes_eq, if_neg k1, if_neg k2, if_neg k3, if_neg k4, if_neg k5, if_neg k7]
  rw [he] at hl ⊢
  have hll := hf.l
  obtain ⟨apl, capl, hv, hcl, _⟩ := hg.row.parts
  obtain ⟨N, hN⟩ : ∃ N, N = m.l.length := ⟨_, rfl⟩
  rw [← hN] at hv hl hll hcl ⊢
  have hfm := pitoa (N : Int) (by omega) (by omega) _ base hV2
  have hln := fun w' (hk : Kept NoBlock (W2 w (.slice ap x.length cap) m) w') => pline base w.heap.size w' x (Lib.itoa (N : Int)) 42 (hst.bw.kept hk) (by have := hk.size; rw [W2_size] at this; omega) (by simp at hl ⊢; omega)
  rw [show (((42 : UInt8).toNat : Int)) = 42 from rfl] at hln
  have HF := Lib.hid hfm
  have HL := Lib.hid hln
  have HST := Lib.hid hst
  have HV := Lib.hid hV
  have HG := Lib.hid hg
  have HFM := Lib.hid hf
  have HN := Lib.hid hN
  have HIH := Lib.hid ih
  generalize hn : x.length = n at *
  have HX := Lib.hid hn
  generalize Lib.itoa (N : Int) = D at *
  have HHL := Lib.hid hl
  have HSZ := Lib.hid hsz
  clear he hl hln hst ho hV hV2 hfm hf hN hn hg ih
  unfold W2 at HF HL
  unfold repA
  rw [hv] at HF HL ⊢
  have HVV := Lib.hid hv
  clear hv
  obtain ⟨kk, hkk⟩ : ∃ kk, kk = m.k := ⟨_, rfl⟩
  rw [← hkk] at k1 k2 k3 k4 k5 k7 HF HL ⊢
  have HKK := Lib.hid hkk
  clear hkk
  go_enter Tryd.func25, Tryd.ntmps25
  go_wp2_with fail
  refine HF.out.mono ?_
  rintro e w1 ⟨rfl, hk1⟩
  have HL1 := Lib.hid (HL.out w1 hk1)
  have HST1 : Hid (WrW w base m x w1) := Lib.hid (HST.out.kept (by unfold W2; rw [HVV.out, ← HKK.out]; exact hk1))
  clear hk1
  go_wp2_with fail
  refine HL1.out.mono ?_
  rintro e w2 ⟨⟨u, rfl⟩, hbw, hwb⟩
  have HST2 := Lib.hid (HST1.out.line hbw hwb)
  have hb1 := HST2.out.b1
  rw [HVV.out, ← HKK.out] at hb1
  obtain ⟨d0, d1, d2, d3⟩ := blk4 hb1
  clear hbw hwb hb1 HF HL HL1 HST1 HST
  obtain ⟨y, hy⟩ : ∃ y, y = x ++ 42 :: (D ++ [13, 10]) := ⟨_, rfl⟩
  rw [← hy] at HST2
  have HY := Lib.hid hy
  clear hy
  go_wp2_with fail
  go_loopw [20] (fun vi wr => ∃ i : Nat, vi = .int .i64 i ∧ i ≤ N ∧ WrW w base m (y ++ bytesM (m.l.take i)) wr) (fun vi _ => N - (intOf vi).toNat)
  case atStart => exact ⟨0, rfl, Nat.zero_le _, by rw [List.take_zero, bytesM_nil, List.append_nil]; exact HST2.out⟩
  case round =>
    obtain ⟨i, rfl, hi, hr⟩ := hrel
    have HR := Lib.hid hr
    clear hr
    by_cases hlt : i < N
    · obtain ⟨a, ha⟩ : ∃ a, m.l[i]? = some a := ⟨m.l[i]'(by have := HN.out; omega), List.getElem?_eq_getElem _⟩
      have ham := List.mem_of_getElem? ha
      have hrow := row_wb HR.out HG.out
      rw [HVV.out] at hrow
      obtain ⟨ad, rfl, a0, a1, a2, a3⟩ := rep_at hrow ha
      obtain ⟨apa, capa, hav, _⟩ := (HG.out.subs a ham).row.parts
      have hnx := bytesM_next ha
      have hle := bytesM_le m.l (i + 1)
      rw [hnx] at hle
      obtain ⟨vg, cg, hog, _⟩ := HR.out.fin
      obtain ⟨apg, capg, rfl, _⟩ := OwnM.form hog.t
      have hka := Kept.allocd wr (.cells #[.int .i64 a.k, strV a.s, .int .i64 a.n, a.v] 26)
      have hR2 := HR.out.kept hka
      have hcall := HIH.out a ham base _ _ _ (hog.kept hka) (hR2.vs HV.out) (hR2.good (HG.out.subs a ham)) (HFM.out.subs a ham) (by
        have := HHL.out
        have := HX.out
        rw [HY.out]
        simp only [List.length_append, List.length_cons, List.length_nil] at *
        omega)
      unfold repA at hcall
      rw [hav] at hcall hR2 hka a3
      unfold strV at hcall hR2 hka a1
      have HCALL := Lib.hid hcall
      have HR2 := Lib.hid hR2
      have HNX := Lib.hid hnx
      generalize (y ++ bytesM (m.l.take i)).length = q at *
      generalize a.l.length = la at *
      have hcg : (wr.alloc (.cells #[.int .i64 a.k, .string ⟨a.s.toArray⟩, .int .i64 a.n, .slice apa la capa] 26)).cell? ⟨w.heap.size, 0, none⟩ = some (.slice apg q capg) := by
        rw [World.cell?_of_block (w := wr) (hka.block _ (cell_lt cg) (fun h => h))]
        exact cg
      clear hav ha ham hrow hnx hle hog hka hR2 hcall cg
      go_wp2_with fail
      refine HCALL.out.mono ?_
      rintro e w3 ⟨v3, rfl, ho3, hk3⟩
      have HR3 := Lib.hid (HR2.out.call ho3 hk3)
      obtain ⟨ap3, cap3, rfl, _⟩ := OwnM.form ho3.t
      have hg3 : ∃ v0, w3.cell? ⟨w.heap.size, 0, none⟩ = some v0 ∧ w3.frozen? ⟨w.heap.size, 0, none⟩ = false := by
        obtain ⟨v0, hg, _⟩ := HR2.out.bw
        exact ⟨v0, blk1' (hk3.heap hg (fun h => h) (by decide))⟩
      obtain ⟨v0, e0, z0⟩ := hg3
      generalize (y ++ bytesM (m.l.take i) ++ bytesR a.rep).length = q3 at *
      clear ho3 hk3 HCALL HR2 hcg
      go_wp2_with fail
      go_roundw
      case rel => exact ⟨i + 1, by go_num, by omega, by rw [HNX.out, ← List.append_assoc]; exact HR3.out⟩
      case measure => simp [intOf]; omega
    · obtain rfl : i = N := by omega
      have hr := HR.out
      rw [List.take_of_length_le (by have := HN.out; omega)] at hr
      obtain ⟨v9, c9, ho9, hw9⟩ := hr.fin
      have H9 := Lib.hid ho9
      have HW := Lib.hid hw9
      clear hr ho9 hw9 HR
      go_wp2_with fail
      go_ret
      refine ⟨_, rfl, ?_, HW.out⟩
      have := H9.out
      rw [HY.out] at this
      simpa using this
theorem pwrite : ∀ m, PW m := by
  refine RepM.ind ?_
  intro m ih base v x w ho hV hg hf hl
  by_cases h1 : m.k = 1 ∨ m.k = 2
  · exact pwrite_text m h1 base v x w ho hV hf hl
  by_cases h2 : m.k = 3
  · exact pwrite_int m h2 base v x w ho hV hf hl
  by_cases h3 : m.k = 4
  · exact pwrite_bulk m h3 base v x w ho hV hf hl
  by_cases h4 : m.k = 5 ∨ m.k = 7
  · exact pwrite_nil m h4 base v x w ho hV hf hl
  · exact pwrite_arr m ih (by omega) base v x w ho hV hg hf hl
theorem VsB.now {w : World} {base : Nat} (h : VsB w base) : VsB w w.heap.size := by
  obtain ⟨w0, h1, h2, h3, h4⟩ := h
  exact ⟨w0, h1, by omega, Nat.le_refl _, h4⟩
theorem GoodM.safe {w : World} {P : Nat → Prop} {m : RepM} (h : GoodM w P m) : GoodM w (SafeB w.heap.size w) m := h.mono (fun j hj _ => .inl hj)
theorem WB.no {w w' : World} (h : WB w.heap.size (fun _ => False) w w') : Kept NoBlock w w' := Kept.mono h (fun k hk hu => by
  rcases hu with hu | ⟨hb, _⟩
  · exact hu
  · omega)
/-- What Encode leaves. -/
def EncEnd (w : World) (m : RepM) (e : Ending) (w' : World) : Prop := Kept NoBlock w w' ∧ ∃ v, e = .returned (.tuple #[v, .int .i64 (checkR m.rep)]) ∧ OwnZ w' w.heap.size v (if checkR m.rep = 0 then bytesR m.rep else [])
set_option maxRecDepth 100000 in
theorem pEncode (m : RepM) (P : Nat → Prop) (b : Nat) (w : World) (hV : VsB w b) (h : GoodM w P m) (hf : FitM m) (hl : checkR m.rep = 0 → (bytesR m.rep).length ≤ 1000000000) :
    Calls Tryd.prog 13 #[repA m] w (EncEnd w m) := by
  have hka := Kept.allocd w (.cells #[.int .i64 m.k, strV m.s, .int .i64 m.n, m.v] 26)
  have hga := heap_alloc_new w (.cells #[.int .i64 m.k, strV m.s, .int .i64 m.n, m.v] 26)
  have hc := pcheck m P _ (h.keptN hka) hf
  have hw := fun w' (hk : Kept NoBlock w w') (he : checkR m.rep = 0) => pwrite m w'.heap.size (.slice none 0 0) [] w' (OwnZ.nil _ _) (hV.kept hk).now ((h.keptN hk).safe) hf (by simpa using hl he)
  unfold EncEnd
  obtain ⟨E, hE⟩ : ∃ E, E = checkR m.rep := ⟨_, rfl⟩
  rw [← hE] at hc hw ⊢
  have HC := Lib.hid hc
  have HW := Lib.hid hw
  have HKA := Lib.hid hka
  have HGA := Lib.hid hga
  clear hc hw hka hga h hf hl hV hE
  unfold repA at HC HW ⊢
  go_enter Tryd.func13, Tryd.ntmps13
  go_wp2_with fail
  refine HC.out.mono ?_
  rintro e w2 ⟨rfl, hk2⟩
  have HK2 := Lib.hid hk2
  have HK3 := Lib.hid (HKA.out.trans hk2)
  clear hk2
  by_cases hE : E = 0
  · subst hE
    obtain ⟨c0, c1, c2, c3⟩ := blk4 (HK2.out.heap HGA.out (fun h => h))
    go_wp2_with fail
    refine (HW.out w2 HK3.out trivial).mono ?_
    rintro e w3 ⟨v, rfl, ho, hk3⟩
    have HK4 := Lib.hid (HK3.out.trans hk3.no)
    have HO := Lib.hid (ho.lower (base' := w.heap.size) HK3.out.size)
    clear hk3 ho
    go_wp2_with fail
    go_ret2
    exact ⟨HK4.out, _, rfl, HO.out⟩
  · go_wp2_with fail
    go_ret2
    refine ⟨HK3.out, _, rfl, ?_⟩
    exact OwnZ.nil _ _
end Go.Proofs.YtpekeilpdbdnnaaDoor
