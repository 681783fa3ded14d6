/- Merged: The reader, by the program: so many bytes, numbers, texts; Rows of structs that the call itself has made: elements joined; The reader, by the program: a value; The reader, by the program: an entry; What is read is not longer than what it was read from; Decoding, by the program: what catches the reader's fault; Decoding, by the program. -/
import Derived.Test.YtfhlhpknobkplaaDoorZEn2
import Derived.Defers
import Derived.Recover
set_option linter.all false
namespace Go.Proofs.YtfhlhpknobkplaaDoor
open Go.RowKit
attribute [local go_sem] fold_part fold_some fold_some' partAt_zero

def snapE : List PanicEntry := [{ v := .iface 34 (.int .i64 200), recovered := false }]

/-- A reader at g, with what is left. -/
def RdS (w : World) (g : Nat) (l : Bs) : Prop := ∃ v, w.heap[g]? = some (.cells #[v] 63 (0, 0)) ∧ BytesV w v l ∧ ∀ b, vblk v = some b → b < g
theorem RdS.lt {w : World} {g : Nat} {l : Bs} (h : RdS w g l) : g < w.heap.size := by
  obtain ⟨v, hg, _⟩ := h; exact lt_of_heap hg
theorem RdS.kept {w w' : World} {g : Nat} {l : Bs} (h : RdS w g l) (hk : Kept NoBlock w w') : RdS w' g l := by
  obtain ⟨v, hg, hv, h1⟩ := h; exact ⟨v, hk.heap hg (fun h => h), hv.keptNo hk, h1⟩

/-- Nothing but the reader has turned. -/
def KG (g : Nat) (w w' : World) : Prop := Kept (fun k => k = g) w w'
theorem Kept.kg {w w' : World} (h : Kept NoBlock w w') (g : Nat) : KG g w w' := h.anyS
theorem KG.trans {g : Nat} {w w' w'' : World} (h : KG g w w') (h' : KG g w' w'') : KG g w w'' := Kept.trans h h'
theorem KG.heap {g : Nat} {w w' : World} (h : KG g w w') {k : Nat} {o : Obj} (hk : w.heap[k]? = some o) (hg : ¬ (k = g)) : w'.heap[k]? = some o := Kept.heap h hk hg

/-- How a call on the reader ends: by the model's word. -/
def EndS {α : Type} (g : Nat) (M : Option (α × Bs)) (ret : α → Value → World → Prop) (w : World) (e : Ending) (w' : World) : Prop :=
  KG g w w' ∧ match M with
  | none => e = .panicked snapE
  | some (a, r) => ∃ v, e = .returned v ∧ ret a v w' ∧ RdS w' g r

def retB (x : Bs) (v : Value) (w : World) : Prop := BytesV w v x
def retU (n : Nat) (v : Value) (_ : World) : Prop := v = .int .u64 n
def retI (n : Nat) (v : Value) (_ : World) : Prop := v = .int .i64 n
def retT (s : Bs) (v : Value) (_ : World) : Prop := v = strV s

theorem blk1' {w : World} {g : Nat} {a : Value} {T : TypeId} (h : w.heap[g]? = some (.cells #[a] T (0, 0))) :
    w.cell? ⟨g, 0, none⟩ = some a ∧ w.frozen? ⟨g, 0, none⟩ = false := ⟨cellB h rfl, frozenB h 0⟩

set_option maxRecDepth 100000 in
theorem ptake (g : Nat) (l : Bs) (n : Nat) (w : World) (h : RdS w g l) (hn : n ≤ 4294967296) (hl : l.length ≤ 1000000000) :
    Calls Tryd.prog 38 #[.pointer (some ⟨g, 0, none⟩), .int .i64 n] w (EndS g (takeB n l) retB w) := by
  obtain ⟨v, hg, hb, hbl⟩ := h
  have hb' := hb
  obtain ⟨ap, cap, rfl, hc, hnil⟩ := hb.parts
  obtain ⟨c0, f0⟩ := blk1' hg
  generalize hM : takeB n l = M
  unfold takeB at hM
  have HB := Lib.hid hb
  have HG := Lib.hid hg
  have HBL := Lib.hid hbl
  generalize hlen : l.length = m at *
  have HLEN := Lib.hid hlen
  by_cases hlt : n ≤ m
  · rw [if_pos hlt] at hM
    subst hM
    have h1 := BytesV.front hb n hlt
    have h2 := BytesV.tail hb n hlt
    have H1 := Lib.hid h1
    have H2 := Lib.hid h2
    clear hb hb' hg hbl hlen h1 h2 hnil
    go_enter Tryd.func38, Tryd.ntmps38
    go_wp2_with fail
    go_ret
    have hk : KG g w (w.setCell ⟨g, 0, none⟩ (.slice (partAt ap n cap) (m - n) (cap - n))) := Kept.setCell (S := fun k => k = g) (p := ⟨g, 0, none⟩) (Kept.refl _ w) (fun _ => rfl) _
    refine ⟨hk, _, rfl, H1.out.kept hk (fun b e h => ?_), _, heap_setCell_same HG.out 0 _, H2.out.kept hk (fun b e h => ?_), fun b e => ?_⟩
    · have := HBL.out b (by rw [vblk_slice] at e ⊢; exact e)
      omega
    · have := HBL.out b (by rw [partAt_blk (n' := m) (c' := cap)] at e; exact e)
      omega
    · exact HBL.out b (by rw [partAt_blk (n' := m) (c' := cap)] at e; exact e)
  · rw [if_neg hlt] at hM
    subst hM
    clear hb hb' hg hbl hlen hnil
    go_enter Tryd.func38, Tryd.ntmps38
    go_wp2_with fail
    exact ⟨rfl, (Kept.refl _ w).kg g, rfl⟩

theorem takeB_len {n : Nat} {b x r : Bs} (h : takeB n b = some (x, r)) : x.length = n ∧ r.length + n = b.length := by
  unfold takeB at h
  split at h
  · cases h
    rw [List.length_take, List.length_drop]
    omega
  · cases h
theorem numB_len {k n : Nat} {b r : Bs} (h : numB k b = some (n, r)) : r.length + k = b.length := by
  unfold numB at h
  split at h
  · rename_i x r' hx
    cases h
    exact (takeB_len hx).2
  · cases h
theorem txtB_len {b s r : Bs} (h : txtB b = some (s, r)) : r.length + 4 + s.length = b.length := by
  unfold txtB at h
  split at h
  · rename_i n r' hx
    have h1 := numB_len hx
    have h2 := takeB_len h
    omega
  · cases h

set_option maxRecDepth 100000 in
theorem peightR (g : Nat) (l : Bs) (w : World) (h : RdS w g l) (hl : l.length ≤ 1000000000) :
    Calls Tryd.prog 25 #[.pointer (some ⟨g, 0, none⟩)] w (EndS g (numB 8 l) retU w) := by
  have ht := ptake g l 8 w h (by decide) hl
  rw [show (((8 : Nat) : Int)) = 8 from rfl] at ht
  generalize hM : numB 8 l = M
  unfold numB at hM
  have HT := Lib.hid ht
  have HM := Lib.hid hM
  clear ht hM h
  go_enter Tryd.func25, Tryd.ntmps25
  go_wp2_with fail
  refine HT.out.mono ?_
  rintro e w2 ⟨hk, he⟩
  have hm := HM.out
  cases htk : takeB 8 l with
  | none =>
    rw [htk] at he hm
    simp only at he hm
    subst he hm
    exact ⟨rfl, hk, rfl⟩
  | some p =>
    obtain ⟨x, r⟩ := p
    rw [htk] at he hm
    simp only at he hm
    obtain ⟨v, rfl, hb, hr⟩ := he
    subst hm
    have hpw := pworth v x (by rw [(takeB_len htk).1]; exact Nat.le_refl _) w2 hb
    have HPW := Lib.hid hpw
    have HK := Lib.hid hk
    have HR := Lib.hid hr
    clear hpw hk hr hb htk HM
    go_wp2_with fail
    refine HPW.out.mono ?_
    rintro e w3 ⟨rfl, rfl⟩
    go_wp2_with fail
    go_ret
    exact ⟨HK.out, _, rfl, rfl, HR.out⟩

set_option maxRecDepth 100000 in
theorem pfourR (g : Nat) (l : Bs) (w : World) (h : RdS w g l) (hl : l.length ≤ 1000000000) :
    Calls Tryd.prog 26 #[.pointer (some ⟨g, 0, none⟩)] w (EndS g (numB 4 l) retI w) := by
  have ht := ptake g l 4 w h (by decide) hl
  rw [show (((4 : Nat) : Int)) = 4 from rfl] at ht
  generalize hM : numB 4 l = M
  unfold numB at hM
  have HT := Lib.hid ht
  have HM := Lib.hid hM
  clear ht hM h
  go_enter Tryd.func26, Tryd.ntmps26
  go_wp2_with fail
  refine HT.out.mono ?_
  rintro e w2 ⟨hk, he⟩
  have hm := HM.out
  cases htk : takeB 4 l with
  | none =>
    rw [htk] at he hm
    simp only at he hm
    subst he hm
    exact ⟨rfl, hk, rfl⟩
  | some p =>
    obtain ⟨x, r⟩ := p
    rw [htk] at he hm
    simp only at he hm
    obtain ⟨v, rfl, hb, hr⟩ := he
    subst hm
    have hx4 := (takeB_len htk).1
    have hpw := pworth v x (by rw [hx4]; decide) w2 hb
    have hlv := leV_lt x
    rw [hx4] at hlv
    obtain ⟨n, hn⟩ : ∃ n, n = leV x := ⟨_, rfl⟩
    rw [← hn] at hpw hlv ⊢
    have HN := Lib.hid hn
    have HPW := Lib.hid hpw
    have HK := Lib.hid hk
    have HR := Lib.hid hr
    have hn4 : n ≤ 4294967296 := by omega
    clear hpw hk hr hb htk HM hx4 hlv hn
    go_wp2_with fail
    refine HPW.out.mono ?_
    rintro e w3 ⟨rfl, rfl⟩
    go_wp2_with fail
    go_ret
    exact ⟨HK.out, _, rfl, by rw [← HN.out]; rfl, HR.out⟩

set_option maxRecDepth 100000 in
theorem ptextR (g : Nat) (l : Bs) (w : World) (h : RdS w g l) (hl : l.length ≤ 1000000000) :
    Calls Tryd.prog 39 #[.pointer (some ⟨g, 0, none⟩)] w (EndS g (txtB l) retT w) := by
  have ht := fun n0 => pfourR g l (w.drewN n0) (h.kept ((Kept.refl NoBlock w).drewN n0)) hl
  generalize hM : txtB l = M
  unfold txtB at hM
  have HT := Lib.hid ht
  have HM := Lib.hid hM
  have hlt := h.lt
  clear ht hM h
  go_enter Tryd.func39, Tryd.ntmps39
  go_wp2_with fail
  refine wp_planC (fun _ => True) 7 [.flt 0, .flt 1, .flt 2, .seg [3] 4, .seg [] 5] [6, 7] (by kernel_rfl) (by kernel_rfl) (fun _ _ _ dst _ h => by cases dst <;> exact h) (fun _ _ h => h) trivial (fun n0 => ?_)
  repeat (refine planC_flt rfl rfl ?_; apply Exists.intro; refine ⟨fun w' hw' => ?_, ?_⟩; (go_simp; first | rfl | exact ⟨rfl, rfl⟩); simp only [Act.put, List.setIfInBounds_toArray, List.set_cons_succ, List.set_cons_zero])
  simp only [wpPlanC, pick, List.filterMap_cons, List.filterMap_nil, List.getElem?_cons_succ, List.getElem?_cons_zero]
  repeat (quiet_step (fail))
  refine wpQuiet_nil ?_
  rintro _ ⟨n1, rfl⟩
  go_wp2_with fail
  refine (HT.out _).mono ?_
  rintro e w2 ⟨hk, he⟩
  have hm := HM.out
  have hk' : KG g w w2 := (((Kept.refl NoBlock w).drewN _).kg g).trans hk
  clear hk
  cases htk : numB 4 l with
  | none =>
    rw [htk] at he hm
    simp only at he hm
    subst he hm
    exact ⟨rfl, hk', rfl⟩
  | some p =>
    obtain ⟨n, r⟩ := p
    rw [htk] at he hm
    simp only at he hm
    obtain ⟨v, rfl, rfl, hr⟩ := he
    have hn := numB_lt htk
    have hrl := numB_len htk
    have HR := Lib.hid hr
    have HK := Lib.hid hk'
    have HT2 := Lib.hid (ptake g r n w2 hr (by omega) (by omega))
    clear htk hr hk' HM
    have HM := Lib.hid hm
    clear hm
    go_wp2_with fail
    refine Halt.mk ⟨.inr trivial, ?_⟩
    go_wp2_with fail
    refine HT2.out.mono ?_
    rintro e w3 ⟨hk, he⟩
    have hm := HM.out
    cases htk : takeB n r with
    | none =>
      rw [htk] at he hm
      simp only at he hm
      subst he hm
      exact ⟨rfl, HK.out.trans hk, rfl⟩
    | some p =>
      obtain ⟨x, q⟩ := p
      rw [htk] at he hm
      simp only at he hm
      obtain ⟨v, rfl, hb, hr⟩ := he
      subst hm
      obtain ⟨ap, cap, rfl, _⟩ := hb.parts
      have hcv := fun k => conv_of (w := w3.drewN k) hb
      have HR3 := Lib.hid hr
      have HK3 := Lib.hid (HK.out.trans hk)
      clear hb hr hk htk HM
      go_wp2_with fail
      refine Halt.mk ⟨.inr trivial, ?_⟩
      repeat (quiet_step (fail))
      refine wpQuiet_nil ?_
      rintro _ ⟨n2, rfl⟩
      go_wp2_with fail
      go_ret
      exact ⟨HK3.out.drewN n2, _, rfl, rfl, HR3.out.kept ((Kept.refl NoBlock w3).drewN n2)⟩
end Go.Proofs.YtfhlhpknobkplaaDoor
namespace Go.Proofs.YtfhlhpknobkplaaDoor
open Go.RowKit

section
variable {α : Type} {k : Nat} {f : α → List Value} {T : TypeId}
/-- A row of structs of k cells that the call itself has made. -/
def OwnK (k : Nat) (T : TypeId) (f : α → List Value) (w : World) (base : Nat) (v : Value) (xs : List α) : Prop := w.ownsRow base T k v xs.length (xs.flatMap f)
theorem OwnK.nil (w : World) (base : Nat) : OwnK k T f w base (.slice none 0 0) [] := World.ownsRow_nil _ _ _ _
theorem OwnK.row (hf : ∀ x, (f x).length = k) (hk : 0 < k) {w : World} {base : Nat} {v : Value} {xs : List α} (h : OwnK k T f w base v xs) : RowK k f w v xs := by
  have hl : (xs.flatMap f).length = k * xs.length := flat_len hf xs
  rcases h.2 with ⟨rfl, h0⟩ | ⟨g, cap, cur, rfl, hb, hg, hn, _, _, _⟩
  · refine ⟨none, 0, by rw [h0], ⟨hl, fun hp => ?_⟩, by omega, fun _ => rfl⟩
    rw [h0, Nat.mul_zero] at hp
    omega
  · exact ⟨some ⟨g, 0, none⟩, cap, rfl, ⟨hl, fun _ => ⟨_, rfl, World.ownsRow.cells h rfl⟩⟩, hn, fun h => by cases h⟩
theorem OwnK.form (hf : ∀ x, (f x).length = k) (hk : 0 < k) {w : World} {base : Nat} {v : Value} {xs : List α} (h : OwnK k T f w base v xs) : ∃ ap cap, v = .slice ap xs.length cap := by
  obtain ⟨ap, cap, rfl, _⟩ := OwnK.row hf hk h
  exact ⟨ap, cap, rfl⟩
theorem OwnK.keptS {S : Nat → Prop} {w w' : World} {base : Nat} {v : Value} {xs : List α} (h : OwnK k T f w base v xs) (hk : Kept S w w') (hS : ∀ i, base ≤ i → i < w.heap.size → ¬ S i) : OwnK k T f w' base v xs := by
  refine ⟨h.1, ?_⟩
  rcases h.2 with hn | ⟨g, cap, cur, rfl, hb, hg, rest⟩
  · exact .inl hn
  · exact .inr ⟨g, cap, cur, rfl, hb, hk.heap hg (hS g hb (lt_of_heap hg)), rest⟩
theorem OwnK.kept {w w' : World} {base : Nat} {v : Value} {xs : List α} (h : OwnK k T f w base v xs) (hk : Kept NoBlock w w') : OwnK k T f w' base v xs := h.keptS hk (fun _ _ _ h => h)
theorem OwnK.lt {w : World} {base : Nat} {v : Value} {xs : List α} (h : OwnK k T f w base v xs) : ∀ j, v.ownBlock = some j → base ≤ j ∧ j < w.heap.size := World.ownsRow.lt h

/-- 'append(l, x)'. -/
theorem wpList_appK {w : World} {ops : Array Oper} {rest : List Oper} {o : Oper} {a : Act} {Q : Exit → Act → World → Prop} (hgd : o.guard = none) (s x : Operand) (t : TypeId)
    (ho : o.op = .call { callee := .builtin .append, args := #[s, x], argTypes := #[t, t] }) (hu : Tryd.prog.underlying t = some (.slice T)) (z : Value) (bytes : Nat) (hi : (Tryd.prog.info? T).map (fun i => (i.zero, i.size, i.bytes)) = some (some z, k, bytes)) (hz : z.cells.size = k) (hk : 0 < k) (hby : bytes ≤ 1000)
    (hf : ∀ x, (f x).length = k) (base : Nat) (v : Value) (xs : List α) (hs : a.eval s = v) (hown : OwnK k T f w base v xs) (b : Nat) (y : α) (cs : Array Value) (fz : Nat × Nat) (hx : a.eval x = .slice (some ⟨b, 0, none⟩) 1 1)
    (hcell : w.heap[b]? = some (.cells cs T fz)) (hcs : cs.toList = f y) (h1 : ∀ u ∈ f y, u.oneCell' = true) (hlen : xs.length ≤ 100000000) (hbase : base ≤ w.heap.size)
    (h : ∀ v' w', OwnK k T f w' base v' (xs ++ [y]) → w.grownBy w' v.ownBlock → wpList Tryd.prog ops Q rest (a.put o.dst v') w') : wpList Tryd.prog ops Q (o :: rest) a w := by
  obtain ⟨i0, hi, hz0, hz1, hz2⟩ := info_parts hi
  refine wpList_append_own (P := Tryd.prog) w hgd s x t ho base T i0 z k bytes hu hi hz0 hz1 hz2 hz hk v xs.length (xs.flatMap f) hs hown ⟨b, 0, none⟩ 1 1 (f y) hx (by rw [hf, Nat.one_mul])
    (fun j u hj => by
      rw [addr_add, Nat.zero_add]
      refine cellB hcell ?_
      rw [← hcs] at hj
      simpa using hj)
    h1 (by unfold maxLen; omega) ?_ hbase ?_
  · have := Nat.mul_le_mul (show xs.length + 1 ≤ 100000001 by omega) hby
    omega
  · intro v' w' hr hg _
    refine h v' w' ?_ hg
    unfold OwnK
    rw [List.length_append, List.flatMap_append]
    simpa using hr
end

theorem entInfo : (Tryd.prog.info? 56).map (fun i => (i.zero, i.size, i.bytes)) = some (some (.agg #[.string ⟨#[]⟩, .int .i64 0, .string ⟨#[]⟩, .slice none 0 0, .slice none 0 0, .slice none 0 0, .int .i64 0]), 7, 120) := by kernel_rfl
theorem scoInfo : (Tryd.prog.info? 99).map (fun i => (i.zero, i.size, i.bytes)) = some (some (.agg #[.string ⟨#[]⟩, .int .i64 0]), 2, 24) := by kernel_rfl
theorem fieInfo : (Tryd.prog.info? 87).map (fun i => (i.zero, i.size, i.bytes)) = some (some (.agg #[.string ⟨#[]⟩, .string ⟨#[]⟩]), 2, 32) := by kernel_rfl
def sCells (s : Bs) : List Value := [strV s]
theorem sCells_map (L : List Bs) : L.flatMap sCells = L.map strV := by
  induction L with
  | nil => rfl
  | cons s L ih => rw [List.flatMap_cons, ih]; rfl
theorem OwnK.texts {T : TypeId} {w : World} {base : Nat} {v : Value} {L : List Bs} (h : OwnK 1 T sCells w base v L) : RowV w v (L.map strV) := by
  obtain ⟨ap, cap, rfl, h1, h2, h3⟩ := OwnK.row (k := 1) (f := sCells) (fun _ => rfl) (by decide) h
  refine ⟨ap, cap, by rw [List.length_map], ?_, by rw [List.length_map]; exact h2, h3⟩
  rw [sCells_map, Nat.one_mul] at h1
  rw [List.length_map]
  exact h1
end Go.Proofs.YtfhlhpknobkplaaDoor
namespace Go.Proofs.YtfhlhpknobkplaaDoor
open Go.RowKit
attribute [local go_sem] fold_part fold_some fold_some' partAt_zero

theorem results_cell {fn : Func} {p : Tmp} {ty : TypeId} (h : fn.results = #[.cell p ty]) (tmps : Array Value) (P : Program) (w : World) :
    (results fn tmps).run P w = ((asAddr (tmps.getD p undef)).run P w).andThen fun a w₁ => (loadVar ty a).run P w₁ := by
  simp only [results, h]
  simp [Sem.run_bind, Result.andThen]
/-- A slice lies in a block of its type. -/
def TypedT (w : World) (v : Value) (T : TypeId) : Prop := ∀ j, vblk v = some j → ∃ cs fz, w.heap[j]? = some (.cells cs T fz)
theorem TypedT.nil (w : World) (T : TypeId) : TypedT w (.slice none 0 0) T := fun j e => by simp [vblk] at e
theorem TypedT.keptS {S : Nat → Prop} {w w' : World} {v : Value} {T : TypeId} (h : TypedT w v T) (hk : Kept S w w') (hS : ∀ j, vblk v = some j → ¬ S j) : TypedT w' v T := fun j e => by
  obtain ⟨cs, fz, hc⟩ := h j e
  exact ⟨cs, fz, hk.heap hc (hS j e)⟩
theorem TypedT.ne {w : World} {v : Value} {T T' : TypeId} (h : TypedT w v T) {b : Nat} {cs : Array Value} {fz : Nat × Nat} (hb : w.heap[b]? = some (.cells cs T' fz)) (hT : ¬ (T = T')) : ∀ j, vblk v = some j → j ≠ b := fun j e e' => by
  subst e'
  obtain ⟨cs', fz', hc⟩ := h j e
  rw [hb] at hc
  cases hc
  exact hT rfl
theorem OwnK.typed {α : Type} {k : Nat} {f : α → List Value} {T : TypeId} {w : World} {base : Nat} {v : Value} {xs : List α} (h : OwnK k T f w base v xs) : TypedT w v T := by
  rcases h.2 with ⟨rfl, _⟩ | ⟨g, cap, cur, rfl, hb, hg, _⟩
  · exact TypedT.nil _ _
  · intro j e
    simp [vblk] at e
    subst e
    exact ⟨_, _, hg⟩
/-- A value as it lies. -/
def ValV (v : Val) (x : Value) (w : World) : Prop := ∃ vL vZ vH, x = .agg #[.int .i64 v.kind, strV v.s, vL, vZ, vH] ∧ RowV w vL (v.L.map strV) ∧ RowK 2 zCells w vZ v.Z ∧ RowK 2 hCells w vH v.H ∧ TypedT w vL 9 ∧ TypedT w vZ 99 ∧ TypedT w vH 87
theorem RdS.keptS {S : Nat → Prop} {w w' : World} {g : Nat} {l : Bs} (h : RdS w g l) (hk : Kept S w w') (hS : ∀ i, i ≤ g → ¬ S i) : RdS w' g l := by
  obtain ⟨v, hg, hv, h1⟩ := h
  exact ⟨v, hk.heap hg (hS g (Nat.le_refl _)), hv.kept hk (fun b e => hS b (Nat.le_of_lt (h1 b e))), h1⟩
/-- Old blocks stand, what the call itself has made may turn. -/
theorem grownS {w w' : World} {row : Option Nat} {B : Nat} (hg : w.grownBy w' row) (hr : ∀ k, row = some k → B ≤ k) : Kept (fun k => B ≤ k) w w' := Kept.grown (Kept.refl _ w) hg (fun k e _ => hr k e)
theorem KG.ofS {g B : Nat} {w0 w w' : World} (h : KG g w0 w) (hk : Kept (fun k => B ≤ k) w w') (hB : w0.heap.size ≤ B) : KG g w0 w' := Kept.trans' h hk (fun i hi hB' => by omega)
theorem set5 {w : World} {g : Nat} {a b c d e : Value} {T : TypeId} (hg : w.heap[g]? = some (.cells #[a, b, c, d, e] T (0, 0))) (a' b' c' d' e' : Value) :
    (((((w.setCell ⟨g, 0, none⟩ a').setCell ⟨g, 1, none⟩ b').setCell ⟨g, 2, none⟩ c').setCell ⟨g, 3, none⟩ d').setCell ⟨g, 4, none⟩ e').heap[g]? = some (.cells #[a', b', c', d', e'] T (0, 0)) ∧
    Kept (fun k => k = g) w (((((w.setCell ⟨g, 0, none⟩ a').setCell ⟨g, 1, none⟩ b').setCell ⟨g, 2, none⟩ c').setCell ⟨g, 3, none⟩ d').setCell ⟨g, 4, none⟩ e') := by
  refine ⟨heap_setCell_same (heap_setCell_same (heap_setCell_same (heap_setCell_same (heap_setCell_same hg 0 a') 1 b') 2 c') 3 d') 4 e', ?_⟩
  exact Kept.setCell (S := fun k => k = g) (p := ⟨g, 4, none⟩) (Kept.setCell (S := fun k => k = g) (p := ⟨g, 3, none⟩) (Kept.setCell (S := fun k => k = g) (p := ⟨g, 2, none⟩) (Kept.setCell (S := fun k => k = g) (p := ⟨g, 1, none⟩) (Kept.setCell (S := fun k => k = g) (p := ⟨g, 0, none⟩) (Kept.refl _ w) (fun _ => rfl) _) (fun _ => rfl) _) (fun _ => rfl) _) (fun _ => rfl) _) (fun _ => rfl) _
theorem RowK.keptS {α : Type} {k : Nat} {f : α → List Value} {S : Nat → Prop} {w w' : World} {v : Value} {xs : List α} (h : RowK k f w v xs) (hk : Kept S w w') (hS : ∀ j, vblk v = some j → ¬ S j) : RowK k f w' v xs := by
  obtain ⟨ap, cap, rfl, h1, h2, h3⟩ := h
  exact ⟨ap, cap, rfl, h1.keptS hk (fun ad e => by subst e; exact hS _ rfl), h2, h3⟩
/-- A value is handed back: its box was stored. -/
theorem vend {g b : Nat} {w w3 W6 : World} {v : Val} {r : Bs} {vL vZ vH : Value} {cs : Array Value} (h : KG g w w3) (hr : RdS w3 g r) (hgb : g < b) (hb : w.heap.size = b) (hbx : w3.heap[b]? = some (.cells cs 54 (0, 0))) (hk : Kept (fun k => k = b) w3 W6)
    (hL : RowV w3 vL (v.L.map strV)) (hZ : RowK 2 zCells w3 vZ v.Z) (hH : RowK 2 hCells w3 vH v.H) (nL : TypedT w3 vL 9) (nZ : TypedT w3 vZ 99) (nH : TypedT w3 vH 87) :
    EndS g (some (v, r)) ValV w (.returned (.agg #[.int .i64 v.kind, strV v.s, vL, vZ, vH])) W6 := by
  have kL := nL.ne hbx (by decide)
  have kZ := nZ.ne hbx (by decide)
  have kH := nH.ne hbx (by decide)
  exact ⟨Kept.trans' h hk (fun i hi e => by omega), _, rfl, ⟨vL, vZ, vH, rfl, hL.kept hk kL, hZ.keptS hk kZ, hH.keptS hk kH, nL.keptS hk kL, nZ.keptS hk kZ, nH.keptS hk kH⟩, hr.keptS hk (fun i hi e => by omega)⟩


/-- What a row's loop has, behind the elements D: what is left tells the rest. -/
def Rest {α : Type} (get : Nat → Bs → Option (List α × Bs)) (n : Nat) (r : Bs) (D : List α) (m : Nat) (r' : Bs) : Prop :=
  get n r = (get m r').map (fun p => (D ++ p.1, p.2)) ∧ D.length + r'.length ≤ r.length
theorem Rest.start {α : Type} (get : Nat → Bs → Option (List α × Bs)) (n : Nat) (r : Bs) : Rest get n r [] n r := by
  refine ⟨?_, by simp⟩
  cases get n r with
  | none => rfl
  | some p => simp
theorem Rest.stop {α : Type} {get : Nat → Bs → Option (List α × Bs)} {n m : Nat} {r r' : Bs} {D : List α} (h : Rest get n r D m r') (h2 : get m r' = none) : get n r = none := by rw [h.1, h2]; rfl
theorem Rest.next {α : Type} {get : Nat → Bs → Option (List α × Bs)} {n m : Nat} {r r' q : Bs} {D : List α} {x : α} (h : Rest get n r D (m + 1) r') (h2 : get (m + 1) r' = (get m q).map (fun p => (x :: p.1, p.2))) (hl : q.length < r'.length) : Rest get n r (D ++ [x]) m q := by
  refine ⟨?_, ?_⟩
  · rw [h.1, h2]
    cases get m q with
    | none => rfl
    | some p => simp
  · have := h.2
    rw [List.length_append, List.length_singleton]
    omega
theorem Rest.fin {α : Type} {get : Nat → Bs → Option (List α × Bs)} {n : Nat} {r r' : Bs} {D : List α} (h : Rest get n r D 0 r') (h0 : get 0 r' = some ([], r')) : get n r = some (D, r') := by rw [h.1, h0]; simp
theorem getL_step {m : Nat} {r' q : Bs} {s : Bs} (h : txtB r' = some (s, q)) : getL (m + 1) r' = (getL m q).map (fun p => (s :: p.1, p.2)) := by
  rw [getL, h]
  simp only
  cases getL m q <;> rfl
theorem getL_no {m : Nat} {r' : Bs} (h : txtB r' = none) : getL (m + 1) r' = none := by rw [getL, h]
theorem getZ_step {m : Nat} {r' q1 q : Bs} {s : Bs} {k : Nat} (h : txtB r' = some (s, q1)) (h2 : numB 8 q1 = some (k, q)) : getZ (m + 1) r' = (getZ m q).map (fun p => ((s, wrapS k) :: p.1, p.2)) := by
  rw [getZ, h]
  simp only [h2]
  cases getZ m q <;> rfl
theorem getZ_no {m : Nat} {r' : Bs} (h : txtB r' = none) : getZ (m + 1) r' = none := by rw [getZ, h]
theorem getZ_no2 {m : Nat} {r' q : Bs} {s : Bs} (h : txtB r' = some (s, q)) (h2 : numB 8 q = none) : getZ (m + 1) r' = none := by
  rw [getZ, h]
  simp only [h2]
theorem getH_step {m : Nat} {r' q1 q : Bs} {s u : Bs} (h : txtB r' = some (s, q1)) (h2 : txtB q1 = some (u, q)) : getH (m + 1) r' = (getH m q).map (fun p => ((s, u) :: p.1, p.2)) := by
  rw [getH, h]
  simp only [h2]
  cases getH m q <;> rfl
theorem getH_no {m : Nat} {r' : Bs} (h : txtB r' = none) : getH (m + 1) r' = none := by rw [getH, h]
theorem getH_no2 {m : Nat} {r' q : Bs} {s : Bs} (h : txtB r' = some (s, q)) (h2 : txtB q = none) : getH (m + 1) r' = none := by
  rw [getH, h]
  simp only [h2]
/-- The world at the head of a row's loop. -/
structure RowW {α : Type} (k : Nat) (T : TypeId) (f : α → List Value) (box : Value → Array Value) (w : World) (g b : Nat) (D : List α) (r' : Bs) (vX : Value) (wr : World) : Prop where
  rd : RdS wr g r'
  kg : KG g w wr
  b4 : wr.heap[b]? = some (.cells #[.int .i64 0, .string ⟨#[]⟩, .slice none 0 0, .slice none 0 0, .slice none 0 0] 54 (0, 0))
  b5 : wr.heap[b + 1]? = some (.cells (box vX) 54 (0, 0))
  own : OwnK k T f wr (b + 2) vX D
theorem RowW.kept {α : Type} {k : Nat} {T : TypeId} {f : α → List Value} {box : Value → Array Value} {w : World} {g b : Nat} {D : List α} {r' : Bs} {vX : Value} {wr w' : World} (h : RowW k T f box w g b D r' vX wr) (hk : Kept NoBlock wr w') : RowW k T f box w g b D r' vX w' :=
  ⟨h.rd.kept hk, h.kg.trans (hk.kg g), hk.heap h.b4 (fun h => h), hk.heap h.b5 (fun h => h), h.own.kept hk⟩
/-- .. behind a call on the reader. -/
theorem RowW.read {α : Type} {k : Nat} {T : TypeId} {f : α → List Value} {box : Value → Array Value} {w : World} {g b : Nat} {D : List α} {r' q : Bs} {vX : Value} {wr w' : World} (h : RowW k T f box w g b D r' vX wr) (hk : KG g wr w') (hr : RdS w' g q) (hgb : g < b) : RowW k T f box w g b D q vX w' :=
  ⟨hr, h.kg.trans hk, hk.heap h.b4 (by omega), hk.heap h.b5 (by omega), h.own.keptS hk (fun i hi _ e => by omega)⟩
/-- .. behind the row's growing and the box's store. -/
theorem RowW.grow {α : Type} {k : Nat} {T : TypeId} {f : α → List Value} {box : Value → Array Value} {w : World} {g b : Nat} {D D' : List α} {r' : Bs} {vX vX' : Value} {wr w' : World} (h : RowW k T f box w g b D r' vX wr) (hgb : g < b) (hb : w.heap.size = b)
    (hg : wr.grownBy w' vX.ownBlock) (hown : OwnK k T f w' (b + 2) vX' D') (ci : Nat) (hbox : (box vX).setIfInBounds ci vX' = box vX') : RowW k T f box w g b D' r' vX' (w'.setCell ⟨b + 1, ci, none⟩ vX') := by
  have hlt := h.own.lt
  have hk := grownS (B := b + 2) hg (fun j e => (hlt j e).1)
  have hk2 : Kept (fun j => j = b + 1) w' (w'.setCell ⟨b + 1, ci, none⟩ vX') := Kept.setCell (S := fun j => j = b + 1) (p := ⟨b + 1, ci, none⟩) (Kept.refl _ w') (fun _ => rfl) _
  have h5 := hk.heap h.b5 (by omega)
  refine ⟨(h.rd.keptS hk (fun i hi e => by omega)).keptS hk2 (fun i hi e => by omega), Kept.trans' (h.kg.ofS hk (by omega)) hk2 (fun i hi e => by omega), hk2.heap (hk.heap h.b4 (by omega)) (by omega), ?_, hown.keptS hk2 (fun i hi _ e => by omega)⟩
  rw [heap_setCell_same h5 ci vX', hbox]
theorem RowW.cell {α : Type} {k : Nat} {T : TypeId} {f : α → List Value} {box : Value → Array Value} {w : World} {g b : Nat} {D : List α} {r' : Bs} {vX : Value} {wr : World} (h : RowW k T f box w g b D r' vX wr) {ci : Nat} (hci : (box vX)[ci]? = some vX) : wr.cell? ⟨b + 1, ci, none⟩ = some vX := cellB h.b5 hci
theorem wrap_i64 (n : Nat) (h : n < 256 ^ 8) : IntKind.i64.wrap (n : Int) = wrapS n := by
  rw [IntKind.wrap_i64]
  unfold wrapS
  split <;> omega
def boxL (k : Int) (v : Value) : Array Value := #[.int .i64 k, .string ⟨#[]⟩, v, .slice none 0 0, .slice none 0 0]
def boxZ (k : Int) (v : Value) : Array Value := #[.int .i64 k, .string ⟨#[]⟩, .slice none 0 0, v, .slice none 0 0]
def boxH (k : Int) (v : Value) : Array Value := #[.int .i64 k, .string ⟨#[]⟩, .slice none 0 0, .slice none 0 0, v]
theorem numB_bound {n : Nat} {b r : Bs} (h : numB 4 b = some (n, r)) : n ≤ 4294967296 := by have := numB_lt h; omega
set_option maxRecDepth 100000 in
set_option maxHeartbeats 1600000 in
theorem pvalueR (g : Nat) (l : Bs) (k : Int) (w : World) (h : RdS w g l) (hl : l.length ≤ 100000000) :
    Calls Tryd.prog 40 #[.pointer (some ⟨g, 0, none⟩), .int .i64 k] w (EndS g (getV k l) ValV w) := by
  have HR := Lib.hid h
  have hlt := h.lt
  generalize hM : getV k l = M
  have HM := Lib.hid hM
  unfold getV at HM
  have HK4 := Lib.hid (Kept.allocd w (.cells #[.int .i64 0, .string ⟨#[]⟩, .slice none 0 0, .slice none 0 0, .slice none 0 0] 54))
  have HG4 := Lib.hid (heap_alloc_new w (.cells #[.int .i64 0, .string ⟨#[]⟩, .slice none 0 0, .slice none 0 0, .slice none 0 0] 54))
  have HK5 := Lib.hid (HK4.out.alloc (.cells #[.int .i64 k, .string ⟨#[]⟩, .slice none 0 0, .slice none 0 0, .slice none 0 0] 54))
  have HG45 := Lib.hid ((Kept.allocd (w.alloc (.cells #[.int .i64 0, .string ⟨#[]⟩, .slice none 0 0, .slice none 0 0, .slice none 0 0] 54)) (.cells #[.int .i64 k, .string ⟨#[]⟩, .slice none 0 0, .slice none 0 0, .slice none 0 0] 54)).heap HG4.out (fun h => h))
  have HG5 := Lib.hid (heap_alloc_new (w.alloc (.cells #[.int .i64 0, .string ⟨#[]⟩, .slice none 0 0, .slice none 0 0, .slice none 0 0] 54)) (.cells #[.int .i64 k, .string ⟨#[]⟩, .slice none 0 0, .slice none 0 0, .slice none 0 0] 54))
  rw [World.size_alloc] at HG5
  have HSZ := Lib.hid (show ((w.alloc (.cells #[.int .i64 0, .string ⟨#[]⟩, .slice none 0 0, .slice none 0 0, .slice none 0 0] 54)).alloc (.cells #[.int .i64 k, .string ⟨#[]⟩, .slice none 0 0, .slice none 0 0, .slice none 0 0] 54)).heap.size = w.heap.size + 2 from by simp)
  clear h hM HK4 HG4
  by_cases h1 : k = 1
  · subst h1
    have hm := HM.out
    rw [if_pos rfl] at hm
    have HT := Lib.hid (ptextR g l)
    go_enter Tryd.func40, Tryd.ntmps40
    go_wp2_with fail
    generalize (w.alloc (.cells #[.int .i64 0, .string ⟨#[]⟩, .slice none 0 0, .slice none 0 0, .slice none 0 0] 54)).alloc (.cells #[.int .i64 1, .string ⟨#[]⟩, .slice none 0 0, .slice none 0 0, .slice none 0 0] 54) = W5 at *
    generalize hb : w.heap.size = b at *
    have HB := Lib.hid hb
    clear hb
    refine (HT.out W5 (HR.out.kept HK5.out) (by omega)).mono ?_
    rintro e w2 ⟨hk, he⟩
    cases htk : txtB l with
    | none =>
      rw [htk] at he hm
      simp only at he hm
      subst he hm
      exact ⟨rfl, (HK5.out.kg g).trans hk, rfl⟩
    | some p =>
      obtain ⟨s, r⟩ := p
      rw [htk] at he hm
      simp only at he hm
      obtain ⟨v, rfl, rfl, hr⟩ := he
      subst hm
      have HR2 := Lib.hid hr
      have HK2 := Lib.hid ((HK5.out.kg g).trans hk)
      have HG42 := Lib.hid (KG.heap hk HG45.out (by have := HB.out; omega))
      have HG52 := Lib.hid (KG.heap hk HG5.out (by have := HB.out; omega))
      clear hr hk htk HM
      obtain ⟨d0, d1, d2, d3, d4⟩ := blk5 HG52.out
      obtain ⟨e0, e1, e2, e3, e4⟩ := blk5 HG42.out
      have hz := fun i => frozenB HG52.out i
      have hz4 := fun i => frozenB HG42.out i
      have hg6 := heap_set_ne (p := ⟨b + 1, 1, none⟩) (v := strV s) HG42.out (by simp)
      have hk6 := Kept.setCell (S := fun k => k = b + 1) (p := ⟨b + 1, 1, none⟩) (Kept.refl _ w2) (fun _ => rfl) (strV s)
      have HS5 := Lib.hid (set5 hg6 (.int .i64 1) (strV s) (.slice none 0 0) (.slice none 0 0) (.slice none 0 0))
      have HK6 := Lib.hid hk6
      have HG6 := Lib.hid hg6
      clear hg6 hk6
      unfold strV at HS5 HK6 HG6 ⊢
      go_wp2_with fail
      refine bodyPost_ret (v := .agg #[.int .i64 1, .string ⟨s.toArray⟩, .slice none 0 0, .slice none 0 0, .slice none 0 0]) ((results_cell rfl _ _ _).trans ?_) rfl ?_
      · obtain ⟨f0, f1, f2, f3, f4⟩ := blk5 HS5.out.1
        generalize ((((((w2.setCell ⟨b + 1, 1, none⟩ (.string ⟨s.toArray⟩)).setCell ⟨b, 0, none⟩ (.int .i64 1)).setCell ⟨b, 1, none⟩ (.string ⟨s.toArray⟩)).setCell ⟨b, 2, none⟩ (.slice none 0 0)).setCell ⟨b, 3, none⟩ (.slice none 0 0)).setCell ⟨b, 4, none⟩ (.slice none 0 0)) = W6 at *
        go_simp
      · exact vend (v := ⟨1, s, [], [], []⟩) (w3 := w2.setCell ⟨b + 1, 1, none⟩ (.string ⟨s.toArray⟩)) (Kept.trans' HK2.out HK6.out (fun i hi e => by have := HB.out; omega)) (HR2.out.keptS HK6.out (fun i hi e => by omega)) hlt HB.out HG6.out HS5.out.2 (RowV.nil _) (RowK.nil _) (RowK.nil _) (TypedT.nil _ _) (TypedT.nil _ _) (TypedT.nil _ _)
  by_cases h2 : k = 2
  · subst h2
    have hm := HM.out
    rw [if_neg (by decide)] at hm
    simp only [Int.reduceEq, true_or, or_true, or_self, if_true, if_false, eq_self_iff_true] at hm
    have HT := Lib.hid (pfourR g l)
    go_enter Tryd.func40, Tryd.ntmps40
    go_wp2_with fail
    generalize (w.alloc (.cells #[.int .i64 0, .string ⟨#[]⟩, .slice none 0 0, .slice none 0 0, .slice none 0 0] 54)).alloc (.cells #[.int .i64 2, .string ⟨#[]⟩, .slice none 0 0, .slice none 0 0, .slice none 0 0] 54) = W5 at *
    generalize hb : w.heap.size = b at *
    have HB := Lib.hid hb
    clear hb
    refine (HT.out W5 (HR.out.kept HK5.out) (by omega)).mono ?_
    rintro e w2 ⟨hk, he⟩
    cases htk : numB 4 l with
    | none =>
      rw [htk] at he hm
      simp only at he hm
      subst he hm
      exact ⟨rfl, (HK5.out.kg g).trans hk, rfl⟩
    | some p =>
      obtain ⟨n, r⟩ := p
      rw [htk] at he hm
      simp only at he hm
      obtain ⟨v, rfl, rfl, hr⟩ := he
      have hrl := numB_len htk
      have HRW : Hid (∃ vX, RowW 1 9 sCells (boxL 2) w g b [] r vX w2) := Lib.hid ⟨.slice none 0 0, hr, (HK5.out.kg g).trans hk, KG.heap hk HG45.out (by omega), KG.heap hk HG5.out (by omega), OwnK.nil _ _⟩
      have hn4 := numB_bound htk
      have hrl2 : r.length ≤ 100000000 := by omega
      have HRL := Lib.hid hrl2
      clear hr hk htk HM HG45 HG5 HK5 HSZ hrl hrl2
      have HM := Lib.hid hm
      clear hm
      go_wp2_with fail
      go_loopw [6] (fun v6 wr => ∃ m : Nat, v6 = .int .i64 m ∧ m ≤ 4294967296 ∧ ∃ D r' vX, RowW 1 9 sCells (boxL 2) w g b D r' vX wr ∧ Rest getL n r D m r') (fun v6 _ => (intOf v6).toNat)
      case atStart => obtain ⟨vX, h⟩ := HRW.out; exact ⟨n, rfl, hn4, _, _, vX, h, Rest.start _ _ _⟩
      case round =>
        obtain ⟨m, rfl, hm4, D, r', vX, hrw, hrest⟩ := hrel
        have HW := Lib.hid hrw
        have HRE := Lib.hid hrest
        clear hrw hrest HRW
        by_cases hm0 : 0 < m
        · obtain ⟨q, hq⟩ : ∃ q, m = q + 1 := ⟨m - 1, by omega⟩
          have hr'l : r'.length ≤ 100000000 := by have := HRE.out.2; have := HRL.out; omega
          have hDl : D.length ≤ 100000000 := by have := HRE.out.2; have := HRL.out; omega
          have HQ := Lib.hid hq
          clear hq
          go_wp2_with fail
          have hcell := HW.out.cell (ci := 2) rfl
          refine wp_planC (fun W => W.cell? ⟨b + 1, 2, none⟩ = some vX) 7 [.flt 0, .flt 1, .seg [2] 3, .seg [] 4, .seg [] 5, .seg [6] 7] [] (by kernel_rfl) (by kernel_rfl) (fun _ _ _ dst _ h => by cases dst <;> exact h) (fun _ _ h => h) hcell (fun n0 => ?_)
          repeat (refine planC_flt rfl rfl ?_; apply Exists.intro; refine ⟨fun w' hw' => ?_, ?_⟩; (go_simp; first | rfl | exact ⟨rfl, rfl⟩); simp only [Act.put, List.setIfInBounds_toArray, List.set_cons_succ, List.set_cons_zero])
          simp only [wpPlanC, pick, List.filterMap_cons, List.filterMap_nil, List.getElem?_cons_succ, List.getElem?_cons_zero]
          repeat (quiet_step (fail))
          refine wpQuiet_nil ?_
          rintro _ ⟨n1, rfl⟩
          clear hcell
          have HWN := Lib.hid (HW.out.kept ((Kept.refl NoBlock wr).drewN (n0 + n1)))
          have HT2 := Lib.hid (ptextR g r' (wr.drewN (n0 + n1)) HWN.out.rd (by omega))
          go_wp2_with fail
          refine HT2.out.mono ?_
          rintro e w3 ⟨hk, he⟩
          have hk' : KG g wr w3 := (((Kept.refl NoBlock wr).drewN _).kg g).trans hk
          clear hk
          cases htk : txtB r' with
          | none =>
            rw [htk] at he
            simp only at he
            subst he
            have hno := Rest.stop HRE.out (by rw [HQ.out]; exact getL_no htk)
            have hm := HM.out
            rw [hno] at hm
            simp only at hm
            subst hm
            exact ⟨rfl, HW.out.kg.trans hk', rfl⟩
          | some p =>
            obtain ⟨s, q'⟩ := p
            rw [htk] at he
            simp only at he
            obtain ⟨v, rfl, rfl, hr⟩ := he
            have HW3 := Lib.hid (HW.out.read hk' hr hlt)
            have HRE3 := Lib.hid (Rest.next (by have := HRE.out; rw [HQ.out] at this; exact this) (getL_step htk) (by have := txtB_len htk; omega))
            clear hk' hr htk HT2 HWN
            unfold strV
            go_wp2_with fail
            refine Halt.mk ⟨.inr (HW3.out.cell (ci := 2) rfl), ?_⟩
            have HA := Lib.hid (Kept.allocd w3 (.cells #[.string ⟨s.toArray⟩] 9))
            have HGA := Lib.hid (heap_alloc_new w3 (.cells #[.string ⟨s.toArray⟩] 9))
            have HWA := Lib.hid (HW3.out.kept HA.out)
            go_wp2_with fail
            generalize w3.alloc (.cells #[.string ⟨s.toArray⟩] 9) = wA at *
            generalize w3.heap.size = gA at *
            refine Halt.mk ⟨.inr (HWA.out.cell (ci := 2) rfl), ?_⟩
            refine wpList_appK rfl _ _ 50 (by rfl) Tryd.underlying50 _ 16 strInfo rfl (by decide) (by decide) (fun _ => rfl) (b + 2) vX D (by rfl) HWA.out.own gA s #[.string ⟨s.toArray⟩] (0, 0) (by rfl) HGA.out rfl (by intro u hu; simp [sCells, strV] at hu; rcases hu with rfl | rfl <;> rfl) (by omega) (by have := lt_of_heap HWA.out.b5; omega) ?_
            intro v' w' hown hgr
            obtain ⟨ap', cap', rfl⟩ := OwnK.form (k := 1) (f := sCells) (fun _ => rfl) (by decide) hown
            rw [List.length_append, List.length_singleton] at hown ⊢
            have HW9 := Lib.hid (RowW.grow HWA.out hlt HB.out hgr hown 2 rfl)
            have hk9 := grownS (B := b + 2) hgr (fun j e => (HWA.out.own.lt j e).1)
            have h59 := hk9.heap HWA.out.b5 (by omega)
            have hc9 : w'.cell? ⟨b + 1, 2, none⟩ = some vX := cellB h59 rfl
            have hz9 := fun i => frozenB h59 i
            clear hown hgr hk9 h59
            go_wp2_with fail
            refine Halt.mk ⟨.inr hc9, ?_⟩
            repeat (quiet_step (fail))
            refine wpQuiet_nil ?_
            rintro _ ⟨n2, rfl⟩
            go_wp2_with fail
            refine Halt.mk ⟨.inl trivial, ?_⟩
            have HW10 := Lib.hid (HW9.out.kept ((Kept.refl NoBlock _).drewN n2))
            clear hc9 hz9
            go_wp2_with fail
            obtain rfl := HQ.out
            go_roundw
            case rel => exact ⟨q, by go_num, by omega, _, _, _, HW10.out, HRE3.out⟩
            case measure => simp [intOf]
        · obtain rfl : m = 0 := by omega
          have hfin := Rest.fin HRE.out rfl
          have hm := HM.out
          rw [hfin] at hm
          simp only at hm
          subst hm
          have hrow := OwnK.row (k := 1) (f := sCells) (fun _ => rfl) (by decide) HW.out.own
          obtain ⟨apX, capX, rfl⟩ := OwnK.form (k := 1) (f := sCells) (fun _ => rfl) (by decide) HW.out.own
          have hown := HW.out.own.lt
          have HROW := Lib.hid (OwnK.texts HW.out.own)
          obtain ⟨d0, d1, d2, d3, d4⟩ := blk5 HW.out.b5
          obtain ⟨e0, e1, e2, e3, e4⟩ := blk5 HW.out.b4
          have hz4 := fun i => frozenB HW.out.b4 i
          have HS5 := Lib.hid (set5 HW.out.b4 (.int .i64 2) (.string ⟨#[]⟩) (.slice apX D.length capX) (.slice none 0 0) (.slice none 0 0))
          have HNB := Lib.hid (OwnK.typed HW.out.own)
          clear hrow hown hfin
          go_wp2_with fail
          refine bodyPost_ret (v := .agg #[.int .i64 2, .string ⟨#[]⟩, .slice apX D.length capX, .slice none 0 0, .slice none 0 0]) ((results_cell rfl _ _ _).trans ?_) rfl ?_
          · obtain ⟨f0, f1, f2, f3, f4⟩ := blk5 HS5.out.1
            generalize (((((wr.setCell ⟨b, 0, none⟩ (.int .i64 2)).setCell ⟨b, 1, none⟩ (.string ⟨#[]⟩)).setCell ⟨b, 2, none⟩ (.slice apX D.length capX)).setCell ⟨b, 3, none⟩ (.slice none 0 0)).setCell ⟨b, 4, none⟩ (.slice none 0 0)) = W6 at *
            go_simp
          · exact vend (v := ⟨2, [], D, [], []⟩) (w3 := wr) HW.out.kg HW.out.rd hlt HB.out HW.out.b4 HS5.out.2 HROW.out (RowK.nil _) (RowK.nil _) HNB.out (TypedT.nil _ _) (TypedT.nil _ _)
  by_cases h3 : k = 3
  · subst h3
    have hm := HM.out
    rw [if_neg (by decide)] at hm
    simp only [Int.reduceEq, true_or, or_true, or_self, if_true, if_false, eq_self_iff_true] at hm
    have HT := Lib.hid (pfourR g l)
    go_enter Tryd.func40, Tryd.ntmps40
    go_wp2_with fail
    generalize (w.alloc (.cells #[.int .i64 0, .string ⟨#[]⟩, .slice none 0 0, .slice none 0 0, .slice none 0 0] 54)).alloc (.cells #[.int .i64 3, .string ⟨#[]⟩, .slice none 0 0, .slice none 0 0, .slice none 0 0] 54) = W5 at *
    generalize hb : w.heap.size = b at *
    have HB := Lib.hid hb
    clear hb
    refine (HT.out W5 (HR.out.kept HK5.out) (by omega)).mono ?_
    rintro e w2 ⟨hk, he⟩
    cases htk : numB 4 l with
    | none =>
      rw [htk] at he hm
      simp only at he hm
      subst he hm
      exact ⟨rfl, (HK5.out.kg g).trans hk, rfl⟩
    | some p =>
      obtain ⟨n, r⟩ := p
      rw [htk] at he hm
      simp only at he hm
      obtain ⟨v, rfl, rfl, hr⟩ := he
      have hrl := numB_len htk
      have HRW : Hid (∃ vX, RowW 1 9 sCells (boxL 3) w g b [] r vX w2) := Lib.hid ⟨.slice none 0 0, hr, (HK5.out.kg g).trans hk, KG.heap hk HG45.out (by omega), KG.heap hk HG5.out (by omega), OwnK.nil _ _⟩
      have hn4 := numB_bound htk
      have hrl2 : r.length ≤ 100000000 := by omega
      have HRL := Lib.hid hrl2
      clear hr hk htk HM HG45 HG5 HK5 HSZ hrl hrl2
      have HM := Lib.hid hm
      clear hm
      go_wp2_with fail
      go_loopw [6] (fun v6 wr => ∃ m : Nat, v6 = .int .i64 m ∧ m ≤ 4294967296 ∧ ∃ D r' vX, RowW 1 9 sCells (boxL 3) w g b D r' vX wr ∧ Rest getL n r D m r') (fun v6 _ => (intOf v6).toNat)
      case atStart => obtain ⟨vX, h⟩ := HRW.out; exact ⟨n, rfl, hn4, _, _, vX, h, Rest.start _ _ _⟩
      case round =>
        obtain ⟨m, rfl, hm4, D, r', vX, hrw, hrest⟩ := hrel
        have HW := Lib.hid hrw
        have HRE := Lib.hid hrest
        clear hrw hrest HRW
        by_cases hm0 : 0 < m
        · obtain ⟨q, hq⟩ : ∃ q, m = q + 1 := ⟨m - 1, by omega⟩
          have hr'l : r'.length ≤ 100000000 := by have := HRE.out.2; have := HRL.out; omega
          have hDl : D.length ≤ 100000000 := by have := HRE.out.2; have := HRL.out; omega
          have HQ := Lib.hid hq
          clear hq
          go_wp2_with fail
          have hcell := HW.out.cell (ci := 2) rfl
          refine wp_planC (fun W => W.cell? ⟨b + 1, 2, none⟩ = some vX) 7 [.flt 0, .flt 1, .seg [2] 3, .seg [] 4, .seg [] 5, .seg [6] 7] [] (by kernel_rfl) (by kernel_rfl) (fun _ _ _ dst _ h => by cases dst <;> exact h) (fun _ _ h => h) hcell (fun n0 => ?_)
          repeat (refine planC_flt rfl rfl ?_; apply Exists.intro; refine ⟨fun w' hw' => ?_, ?_⟩; (go_simp; first | rfl | exact ⟨rfl, rfl⟩); simp only [Act.put, List.setIfInBounds_toArray, List.set_cons_succ, List.set_cons_zero])
          simp only [wpPlanC, pick, List.filterMap_cons, List.filterMap_nil, List.getElem?_cons_succ, List.getElem?_cons_zero]
          repeat (quiet_step (fail))
          refine wpQuiet_nil ?_
          rintro _ ⟨n1, rfl⟩
          clear hcell
          have HWN := Lib.hid (HW.out.kept ((Kept.refl NoBlock wr).drewN (n0 + n1)))
          have HT2 := Lib.hid (ptextR g r' (wr.drewN (n0 + n1)) HWN.out.rd (by omega))
          go_wp2_with fail
          refine HT2.out.mono ?_
          rintro e w3 ⟨hk, he⟩
          have hk' : KG g wr w3 := (((Kept.refl NoBlock wr).drewN _).kg g).trans hk
          clear hk
          cases htk : txtB r' with
          | none =>
            rw [htk] at he
            simp only at he
            subst he
            have hno := Rest.stop HRE.out (by rw [HQ.out]; exact getL_no htk)
            have hm := HM.out
            rw [hno] at hm
            simp only at hm
            subst hm
            exact ⟨rfl, HW.out.kg.trans hk', rfl⟩
          | some p =>
            obtain ⟨s, q'⟩ := p
            rw [htk] at he
            simp only at he
            obtain ⟨v, rfl, rfl, hr⟩ := he
            have HW3 := Lib.hid (HW.out.read hk' hr hlt)
            have HRE3 := Lib.hid (Rest.next (by have := HRE.out; rw [HQ.out] at this; exact this) (getL_step htk) (by have := txtB_len htk; omega))
            clear hk' hr htk HT2 HWN
            unfold strV
            go_wp2_with fail
            refine Halt.mk ⟨.inr (HW3.out.cell (ci := 2) rfl), ?_⟩
            have HA := Lib.hid (Kept.allocd w3 (.cells #[.string ⟨s.toArray⟩] 9))
            have HGA := Lib.hid (heap_alloc_new w3 (.cells #[.string ⟨s.toArray⟩] 9))
            have HWA := Lib.hid (HW3.out.kept HA.out)
            go_wp2_with fail
            generalize w3.alloc (.cells #[.string ⟨s.toArray⟩] 9) = wA at *
            generalize w3.heap.size = gA at *
            refine Halt.mk ⟨.inr (HWA.out.cell (ci := 2) rfl), ?_⟩
            refine wpList_appK rfl _ _ 50 (by rfl) Tryd.underlying50 _ 16 strInfo rfl (by decide) (by decide) (fun _ => rfl) (b + 2) vX D (by rfl) HWA.out.own gA s #[.string ⟨s.toArray⟩] (0, 0) (by rfl) HGA.out rfl (by intro u hu; simp [sCells, strV] at hu; rcases hu with rfl | rfl <;> rfl) (by omega) (by have := lt_of_heap HWA.out.b5; omega) ?_
            intro v' w' hown hgr
            obtain ⟨ap', cap', rfl⟩ := OwnK.form (k := 1) (f := sCells) (fun _ => rfl) (by decide) hown
            rw [List.length_append, List.length_singleton] at hown ⊢
            have HW9 := Lib.hid (RowW.grow HWA.out hlt HB.out hgr hown 2 rfl)
            have hk9 := grownS (B := b + 2) hgr (fun j e => (HWA.out.own.lt j e).1)
            have h59 := hk9.heap HWA.out.b5 (by omega)
            have hc9 : w'.cell? ⟨b + 1, 2, none⟩ = some vX := cellB h59 rfl
            have hz9 := fun i => frozenB h59 i
            clear hown hgr hk9 h59
            go_wp2_with fail
            refine Halt.mk ⟨.inr hc9, ?_⟩
            repeat (quiet_step (fail))
            refine wpQuiet_nil ?_
            rintro _ ⟨n2, rfl⟩
            go_wp2_with fail
            refine Halt.mk ⟨.inl trivial, ?_⟩
            have HW10 := Lib.hid (HW9.out.kept ((Kept.refl NoBlock _).drewN n2))
            clear hc9 hz9
            go_wp2_with fail
            obtain rfl := HQ.out
            go_roundw
            case rel => exact ⟨q, by go_num, by omega, _, _, _, HW10.out, HRE3.out⟩
            case measure => simp [intOf]
        · obtain rfl : m = 0 := by omega
          have hfin := Rest.fin HRE.out rfl
          have hm := HM.out
          rw [hfin] at hm
          simp only at hm
          subst hm
          have hrow := OwnK.row (k := 1) (f := sCells) (fun _ => rfl) (by decide) HW.out.own
          obtain ⟨apX, capX, rfl⟩ := OwnK.form (k := 1) (f := sCells) (fun _ => rfl) (by decide) HW.out.own
          have hown := HW.out.own.lt
          have HROW := Lib.hid (OwnK.texts HW.out.own)
          obtain ⟨d0, d1, d2, d3, d4⟩ := blk5 HW.out.b5
          obtain ⟨e0, e1, e2, e3, e4⟩ := blk5 HW.out.b4
          have hz4 := fun i => frozenB HW.out.b4 i
          have HS5 := Lib.hid (set5 HW.out.b4 (.int .i64 3) (.string ⟨#[]⟩) (.slice apX D.length capX) (.slice none 0 0) (.slice none 0 0))
          have HNB := Lib.hid (OwnK.typed HW.out.own)
          clear hrow hown hfin
          go_wp2_with fail
          refine bodyPost_ret (v := .agg #[.int .i64 3, .string ⟨#[]⟩, .slice apX D.length capX, .slice none 0 0, .slice none 0 0]) ((results_cell rfl _ _ _).trans ?_) rfl ?_
          · obtain ⟨f0, f1, f2, f3, f4⟩ := blk5 HS5.out.1
            generalize (((((wr.setCell ⟨b, 0, none⟩ (.int .i64 3)).setCell ⟨b, 1, none⟩ (.string ⟨#[]⟩)).setCell ⟨b, 2, none⟩ (.slice apX D.length capX)).setCell ⟨b, 3, none⟩ (.slice none 0 0)).setCell ⟨b, 4, none⟩ (.slice none 0 0)) = W6 at *
            go_simp
          · exact vend (v := ⟨3, [], D, [], []⟩) (w3 := wr) HW.out.kg HW.out.rd hlt HB.out HW.out.b4 HS5.out.2 HROW.out (RowK.nil _) (RowK.nil _) HNB.out (TypedT.nil _ _) (TypedT.nil _ _)
  by_cases h4 : k = 4
  · subst h4
    have hm := HM.out
    rw [if_neg (by decide)] at hm
    simp only [Int.reduceEq, true_or, or_true, or_self, if_true, if_false, eq_self_iff_true] at hm
    have HT := Lib.hid (pfourR g l)
    go_enter Tryd.func40, Tryd.ntmps40
    go_wp2_with fail
    generalize (w.alloc (.cells #[.int .i64 0, .string ⟨#[]⟩, .slice none 0 0, .slice none 0 0, .slice none 0 0] 54)).alloc (.cells #[.int .i64 4, .string ⟨#[]⟩, .slice none 0 0, .slice none 0 0, .slice none 0 0] 54) = W5 at *
    generalize hb : w.heap.size = b at *
    have HB := Lib.hid hb
    clear hb
    refine (HT.out W5 (HR.out.kept HK5.out) (by omega)).mono ?_
    rintro e w2 ⟨hk, he⟩
    cases htk : numB 4 l with
    | none =>
      rw [htk] at he hm
      simp only at he hm
      subst he hm
      exact ⟨rfl, (HK5.out.kg g).trans hk, rfl⟩
    | some p =>
      obtain ⟨n, r⟩ := p
      rw [htk] at he hm
      simp only at he hm
      obtain ⟨v, rfl, rfl, hr⟩ := he
      have hrl := numB_len htk
      have HRW : Hid (∃ vX, RowW 2 99 zCells (boxZ 4) w g b [] r vX w2) := Lib.hid ⟨.slice none 0 0, hr, (HK5.out.kg g).trans hk, KG.heap hk HG45.out (by omega), KG.heap hk HG5.out (by omega), OwnK.nil _ _⟩
      have hn4 := numB_bound htk
      have hrl2 : r.length ≤ 100000000 := by omega
      have HRL := Lib.hid hrl2
      clear hr hk htk HM HG45 HG5 HK5 HSZ hrl hrl2
      have HM := Lib.hid hm
      clear hm
      go_wp2_with fail
      go_loopw [6] (fun v6 wr => ∃ m : Nat, v6 = .int .i64 m ∧ m ≤ 4294967296 ∧ ∃ D r' vX, RowW 2 99 zCells (boxZ 4) w g b D r' vX wr ∧ Rest getZ n r D m r') (fun v6 _ => (intOf v6).toNat)
      case atStart => obtain ⟨vX, h⟩ := HRW.out; exact ⟨n, rfl, hn4, _, _, vX, h, Rest.start _ _ _⟩
      case round =>
        obtain ⟨m, rfl, hm4, D, r', vX, hrw, hrest⟩ := hrel
        have HW := Lib.hid hrw
        have HRE := Lib.hid hrest
        clear hrw hrest HRW
        by_cases hm0 : 0 < m
        · obtain ⟨q, hq⟩ : ∃ q, m = q + 1 := ⟨m - 1, by omega⟩
          have hr'l : r'.length ≤ 100000000 := by have := HRE.out.2; have := HRL.out; omega
          have hDl : D.length ≤ 100000000 := by have := HRE.out.2; have := HRL.out; omega
          have HQ := Lib.hid hq
          clear hq
          have HT2 := Lib.hid (ptextR g r' wr HW.out.rd (by omega))
          go_wp2_with fail
          refine HT2.out.mono ?_
          rintro e w3 ⟨hk', he⟩
          cases htk : txtB r' with
          | none =>
            rw [htk] at he
            simp only at he
            subst he
            have hno := Rest.stop HRE.out (by rw [HQ.out]; exact getZ_no htk)
            have hm := HM.out
            rw [hno] at hm
            simp only at hm
            subst hm
            exact ⟨rfl, HW.out.kg.trans hk', rfl⟩
          | some p =>
            obtain ⟨s, q1⟩ := p
            rw [htk] at he
            simp only at he
            obtain ⟨v, rfl, rfl, hr⟩ := he
            have HW3 := Lib.hid (HW.out.read hk' hr hlt)
            have hq1l := txtB_len htk
            have HTK1 := Lib.hid htk
            clear hk' hr htk HT2
            unfold strV
            go_wp2_with fail
            have hcell := HW3.out.cell (ci := 3) rfl
            refine wp_planC (fun W => W.cell? ⟨b + 1, 3, none⟩ = some vX) 10 [.flt 0, .flt 1, .flt 2, .seg [3] 4, .seg [5] 6, .seg [] 7, .seg [] 8, .seg [9] 10] [] (by kernel_rfl) (by kernel_rfl) (fun _ _ _ dst _ h => by cases dst <;> exact h) (fun _ _ h => h) hcell (fun n0 => ?_)
            repeat (refine planC_flt rfl rfl ?_; apply Exists.intro; refine ⟨fun w' hw' => ?_, ?_⟩; (go_simp; first | rfl | exact ⟨rfl, rfl⟩); simp only [Act.put, List.setIfInBounds_toArray, List.set_cons_succ, List.set_cons_zero])
            simp only [wpPlanC, pick, List.filterMap_cons, List.filterMap_nil, List.getElem?_cons_succ, List.getElem?_cons_zero]
            repeat (quiet_step (fail))
            refine wpQuiet_nil ?_
            rintro _ ⟨n1, rfl⟩
            clear hcell
            have HWN := Lib.hid (HW3.out.kept ((Kept.refl NoBlock w3).drewN (n0 + n1)))
            have HT3 := Lib.hid (peightR g q1 (w3.drewN (n0 + n1)) HWN.out.rd (by omega))
            go_wp2_with fail
            refine HT3.out.mono ?_
            rintro e w4 ⟨hk, he⟩
            have hk' : KG g w3 w4 := (((Kept.refl NoBlock w3).drewN _).kg g).trans hk
            clear hk
            cases htk2 : numB 8 q1 with
            | none =>
              rw [htk2] at he
              simp only at he
              subst he
              have hno := Rest.stop HRE.out (by rw [HQ.out]; exact getZ_no2 HTK1.out htk2)
              have hm := HM.out
              rw [hno] at hm
              simp only at hm
              subst hm
              exact ⟨rfl, HW3.out.kg.trans hk', rfl⟩
            | some p =>
              obtain ⟨y, q'⟩ := p
              rw [htk2] at he
              simp only at he
              obtain ⟨v, rfl, rfl, hr⟩ := he
              have HW4 := Lib.hid (HW3.out.read hk' hr hlt)
              have hylt := hr.lt
              have HRE3 := Lib.hid (Rest.next (by have := HRE.out; rw [HQ.out] at this; exact this) (getZ_step HTK1.out htk2) (by have := numB_len htk2; omega))
              have hwr := wrap_i64 y (numB_lt htk2)
              clear hk' hr htk2 HT3 HWN hylt
              go_wp2_with fail
              refine Halt.mk ⟨.inr (HW4.out.cell (ci := 3) rfl), ?_⟩
              repeat (quiet_step (fail))
              refine wpQuiet_nil ?_
              rintro _ ⟨n3, rfl⟩
              have HW5 := Lib.hid (HW4.out.kept ((Kept.refl NoBlock w4).drewN n3))
              generalize w4.drewN n3 = w5 at *
              clear hwr
              go_wp2_with fail
              refine Halt.mk ⟨.inr (HW5.out.cell (ci := 3) rfl), ?_⟩
              have HA := Lib.hid (Kept.allocd w5 (.cells #[.string ⟨s.toArray⟩, .int .i64 (wrapS y)] 99))
              have HGA := Lib.hid (heap_alloc_new w5 (.cells #[.string ⟨s.toArray⟩, .int .i64 (wrapS y)] 99))
              have HWA := Lib.hid (HW5.out.kept HA.out)
              go_wp2_with fail
              generalize w5.alloc (.cells #[.string ⟨s.toArray⟩, .int .i64 (wrapS y)] 99) = wA at *
              generalize w5.heap.size = gA at *
              refine Halt.mk ⟨.inr (HWA.out.cell (ci := 3) rfl), ?_⟩
              refine wpList_appK rfl _ _ 51 (by rfl) Tryd.underlying51 _ 24 scoInfo rfl (by decide) (by decide) (fun _ => rfl) (b + 2) vX D (by rfl) HWA.out.own gA (s, wrapS y) #[.string ⟨s.toArray⟩, .int .i64 (wrapS y)] (0, 0) (by rfl) HGA.out rfl (by intro u hu; simp [zCells, strV] at hu; rcases hu with rfl | rfl <;> rfl) (by omega) (by have := lt_of_heap HWA.out.b5; omega) ?_
              intro v' w' hown hgr
              obtain ⟨ap', cap', rfl⟩ := OwnK.form (k := 2) (f := zCells) (fun _ => rfl) (by decide) hown
              rw [List.length_append, List.length_singleton] at hown ⊢
              have HW9 := Lib.hid (RowW.grow HWA.out hlt HB.out hgr hown 3 rfl)
              have hk9 := grownS (B := b + 2) hgr (fun j e => (HWA.out.own.lt j e).1)
              have h59 := hk9.heap HWA.out.b5 (by omega)
              have hc9 : w'.cell? ⟨b + 1, 3, none⟩ = some vX := cellB h59 rfl
              have hz9 := fun i => frozenB h59 i
              clear hown hgr hk9 h59
              go_wp2_with fail
              refine Halt.mk ⟨.inr hc9, ?_⟩
              repeat (quiet_step (fail))
              refine wpQuiet_nil ?_
              rintro _ ⟨n2, rfl⟩
              go_wp2_with fail
              refine Halt.mk ⟨.inl trivial, ?_⟩
              have HW10 := Lib.hid (HW9.out.kept ((Kept.refl NoBlock _).drewN n2))
              clear hc9 hz9
              go_wp2_with fail
              obtain rfl := HQ.out
              go_roundw
              case rel => exact ⟨q, by go_num, by omega, _, _, _, HW10.out, HRE3.out⟩
              case measure => simp [intOf]
        · obtain rfl : m = 0 := by omega
          have hfin := Rest.fin HRE.out rfl
          have hm := HM.out
          rw [hfin] at hm
          simp only at hm
          subst hm
          have hrow := OwnK.row (k := 2) (f := zCells) (fun _ => rfl) (by decide) HW.out.own
          obtain ⟨apX, capX, rfl⟩ := OwnK.form (k := 2) (f := zCells) (fun _ => rfl) (by decide) HW.out.own
          have hown := HW.out.own.lt
          have HROW := Lib.hid hrow
          obtain ⟨d0, d1, d2, d3, d4⟩ := blk5 HW.out.b5
          obtain ⟨e0, e1, e2, e3, e4⟩ := blk5 HW.out.b4
          have hz4 := fun i => frozenB HW.out.b4 i
          have HS5 := Lib.hid (set5 HW.out.b4 (.int .i64 4) (.string ⟨#[]⟩) (.slice none 0 0) (.slice apX D.length capX) (.slice none 0 0))
          have HNB := Lib.hid (OwnK.typed HW.out.own)
          clear hrow hown hfin
          go_wp2_with fail
          refine bodyPost_ret (v := .agg #[.int .i64 4, .string ⟨#[]⟩, .slice none 0 0, .slice apX D.length capX, .slice none 0 0]) ((results_cell rfl _ _ _).trans ?_) rfl ?_
          · obtain ⟨f0, f1, f2, f3, f4⟩ := blk5 HS5.out.1
            generalize (((((wr.setCell ⟨b, 0, none⟩ (.int .i64 4)).setCell ⟨b, 1, none⟩ (.string ⟨#[]⟩)).setCell ⟨b, 2, none⟩ (.slice none 0 0)).setCell ⟨b, 3, none⟩ (.slice apX D.length capX)).setCell ⟨b, 4, none⟩ (.slice none 0 0)) = W6 at *
            go_simp
          · exact vend (v := ⟨4, [], [], D, []⟩) (w3 := wr) HW.out.kg HW.out.rd hlt HB.out HW.out.b4 HS5.out.2 (RowV.nil _) HROW.out (RowK.nil _) (TypedT.nil _ _) HNB.out (TypedT.nil _ _)
  by_cases h5 : k = 5
  · subst h5
    have hm := HM.out
    rw [if_neg (by decide)] at hm
    simp only [Int.reduceEq, true_or, or_true, or_self, if_true, if_false, eq_self_iff_true] at hm
    have HT := Lib.hid (pfourR g l)
    go_enter Tryd.func40, Tryd.ntmps40
    go_wp2_with fail
    generalize (w.alloc (.cells #[.int .i64 0, .string ⟨#[]⟩, .slice none 0 0, .slice none 0 0, .slice none 0 0] 54)).alloc (.cells #[.int .i64 5, .string ⟨#[]⟩, .slice none 0 0, .slice none 0 0, .slice none 0 0] 54) = W5 at *
    generalize hb : w.heap.size = b at *
    have HB := Lib.hid hb
    clear hb
    refine (HT.out W5 (HR.out.kept HK5.out) (by omega)).mono ?_
    rintro e w2 ⟨hk, he⟩
    cases htk : numB 4 l with
    | none =>
      rw [htk] at he hm
      simp only at he hm
      subst he hm
      exact ⟨rfl, (HK5.out.kg g).trans hk, rfl⟩
    | some p =>
      obtain ⟨n, r⟩ := p
      rw [htk] at he hm
      simp only at he hm
      obtain ⟨v, rfl, rfl, hr⟩ := he
      have hrl := numB_len htk
      have HRW : Hid (∃ vX, RowW 2 87 hCells (boxH 5) w g b [] r vX w2) := Lib.hid ⟨.slice none 0 0, hr, (HK5.out.kg g).trans hk, KG.heap hk HG45.out (by omega), KG.heap hk HG5.out (by omega), OwnK.nil _ _⟩
      have hn4 := numB_bound htk
      have hrl2 : r.length ≤ 100000000 := by omega
      have HRL := Lib.hid hrl2
      clear hr hk htk HM HG45 HG5 HK5 HSZ hrl hrl2
      have HM := Lib.hid hm
      clear hm
      go_wp2_with fail
      go_loopw [6] (fun v6 wr => ∃ m : Nat, v6 = .int .i64 m ∧ m ≤ 4294967296 ∧ ∃ D r' vX, RowW 2 87 hCells (boxH 5) w g b D r' vX wr ∧ Rest getH n r D m r') (fun v6 _ => (intOf v6).toNat)
      case atStart => obtain ⟨vX, h⟩ := HRW.out; exact ⟨n, rfl, hn4, _, _, vX, h, Rest.start _ _ _⟩
      case round =>
        obtain ⟨m, rfl, hm4, D, r', vX, hrw, hrest⟩ := hrel
        have HW := Lib.hid hrw
        have HRE := Lib.hid hrest
        clear hrw hrest HRW
        by_cases hm0 : 0 < m
        · obtain ⟨q, hq⟩ : ∃ q, m = q + 1 := ⟨m - 1, by omega⟩
          have hr'l : r'.length ≤ 100000000 := by have := HRE.out.2; have := HRL.out; omega
          have hDl : D.length ≤ 100000000 := by have := HRE.out.2; have := HRL.out; omega
          have HQ := Lib.hid hq
          clear hq
          have HT2 := Lib.hid (ptextR g r' wr HW.out.rd (by omega))
          go_wp2_with fail
          refine HT2.out.mono ?_
          rintro e w3 ⟨hk', he⟩
          cases htk : txtB r' with
          | none =>
            rw [htk] at he
            simp only at he
            subst he
            have hno := Rest.stop HRE.out (by rw [HQ.out]; exact getH_no htk)
            have hm := HM.out
            rw [hno] at hm
            simp only at hm
            subst hm
            exact ⟨rfl, HW.out.kg.trans hk', rfl⟩
          | some p =>
            obtain ⟨s, q1⟩ := p
            rw [htk] at he
            simp only at he
            obtain ⟨v, rfl, rfl, hr⟩ := he
            have HW3 := Lib.hid (HW.out.read hk' hr hlt)
            have hq1l := txtB_len htk
            have HTK1 := Lib.hid htk
            clear hk' hr htk HT2
            unfold strV
            go_wp2_with fail
            have hcell := HW3.out.cell (ci := 4) rfl
            refine wp_planC (fun W => W.cell? ⟨b + 1, 4, none⟩ = some vX) 9 [.flt 0, .flt 1, .flt 2, .seg [3] 4, .seg [] 5, .seg [] 6, .seg [] 7, .seg [8] 9] [] (by kernel_rfl) (by kernel_rfl) (fun _ _ _ dst _ h => by cases dst <;> exact h) (fun _ _ h => h) hcell (fun n0 => ?_)
            repeat (refine planC_flt rfl rfl ?_; apply Exists.intro; refine ⟨fun w' hw' => ?_, ?_⟩; (go_simp; first | rfl | exact ⟨rfl, rfl⟩); simp only [Act.put, List.setIfInBounds_toArray, List.set_cons_succ, List.set_cons_zero])
            simp only [wpPlanC, pick, List.filterMap_cons, List.filterMap_nil, List.getElem?_cons_succ, List.getElem?_cons_zero]
            repeat (quiet_step (fail))
            refine wpQuiet_nil ?_
            rintro _ ⟨n1, rfl⟩
            clear hcell
            have HWN := Lib.hid (HW3.out.kept ((Kept.refl NoBlock w3).drewN (n0 + n1)))
            have HT3 := Lib.hid (ptextR g q1 (w3.drewN (n0 + n1)) HWN.out.rd (by omega))
            go_wp2_with fail
            refine HT3.out.mono ?_
            rintro e w4 ⟨hk, he⟩
            have hk' : KG g w3 w4 := (((Kept.refl NoBlock w3).drewN _).kg g).trans hk
            clear hk
            cases htk2 : txtB q1 with
            | none =>
              rw [htk2] at he
              simp only at he
              subst he
              have hno := Rest.stop HRE.out (by rw [HQ.out]; exact getH_no2 HTK1.out htk2)
              have hm := HM.out
              rw [hno] at hm
              simp only at hm
              subst hm
              exact ⟨rfl, HW3.out.kg.trans hk', rfl⟩
            | some p =>
              obtain ⟨y, q'⟩ := p
              rw [htk2] at he
              simp only at he
              obtain ⟨v, rfl, rfl, hr⟩ := he
              have HW4 := Lib.hid (HW3.out.read hk' hr hlt)
              have hylt := hr.lt
              have HRE3 := Lib.hid (Rest.next (by have := HRE.out; rw [HQ.out] at this; exact this) (getH_step HTK1.out htk2) (by have := txtB_len htk2; omega))
              unfold strV
              clear hk' hr htk2 HT3 HWN hylt
              go_wp2_with fail
              refine Halt.mk ⟨.inr (HW4.out.cell (ci := 4) rfl), ?_⟩
              have HW5 := HW4
              go_wp2_with fail
              refine Halt.mk ⟨.inr (HW5.out.cell (ci := 4) rfl), ?_⟩
              have HA := Lib.hid (Kept.allocd w4 (.cells #[.string ⟨s.toArray⟩, .string ⟨y.toArray⟩] 87))
              have HGA := Lib.hid (heap_alloc_new w4 (.cells #[.string ⟨s.toArray⟩, .string ⟨y.toArray⟩] 87))
              have HWA := Lib.hid (HW5.out.kept HA.out)
              go_wp2_with fail
              generalize w4.alloc (.cells #[.string ⟨s.toArray⟩, .string ⟨y.toArray⟩] 87) = wA at *
              generalize w4.heap.size = gA at *
              refine Halt.mk ⟨.inr (HWA.out.cell (ci := 4) rfl), ?_⟩
              refine wpList_appK rfl _ _ 52 (by rfl) Tryd.underlying52 _ 32 fieInfo rfl (by decide) (by decide) (fun _ => rfl) (b + 2) vX D (by rfl) HWA.out.own gA (s, y) #[.string ⟨s.toArray⟩, .string ⟨y.toArray⟩] (0, 0) (by rfl) HGA.out rfl (by intro u hu; simp [hCells, strV] at hu; rcases hu with rfl | rfl <;> rfl) (by omega) (by have := lt_of_heap HWA.out.b5; omega) ?_
              intro v' w' hown hgr
              obtain ⟨ap', cap', rfl⟩ := OwnK.form (k := 2) (f := hCells) (fun _ => rfl) (by decide) hown
              rw [List.length_append, List.length_singleton] at hown ⊢
              have HW9 := Lib.hid (RowW.grow HWA.out hlt HB.out hgr hown 4 rfl)
              have hk9 := grownS (B := b + 2) hgr (fun j e => (HWA.out.own.lt j e).1)
              have h59 := hk9.heap HWA.out.b5 (by omega)
              have hc9 : w'.cell? ⟨b + 1, 4, none⟩ = some vX := cellB h59 rfl
              have hz9 := fun i => frozenB h59 i
              clear hown hgr hk9 h59
              go_wp2_with fail
              refine Halt.mk ⟨.inr hc9, ?_⟩
              repeat (quiet_step (fail))
              refine wpQuiet_nil ?_
              rintro _ ⟨n2, rfl⟩
              go_wp2_with fail
              refine Halt.mk ⟨.inl trivial, ?_⟩
              have HW10 := Lib.hid (HW9.out.kept ((Kept.refl NoBlock _).drewN n2))
              clear hc9 hz9
              go_wp2_with fail
              obtain rfl := HQ.out
              go_roundw
              case rel => exact ⟨q, by go_num, by omega, _, _, _, HW10.out, HRE3.out⟩
              case measure => simp [intOf]
        · obtain rfl : m = 0 := by omega
          have hfin := Rest.fin HRE.out rfl
          have hm := HM.out
          rw [hfin] at hm
          simp only at hm
          subst hm
          have hrow := OwnK.row (k := 2) (f := hCells) (fun _ => rfl) (by decide) HW.out.own
          obtain ⟨apX, capX, rfl⟩ := OwnK.form (k := 2) (f := hCells) (fun _ => rfl) (by decide) HW.out.own
          have hown := HW.out.own.lt
          have HROW := Lib.hid hrow
          obtain ⟨d0, d1, d2, d3, d4⟩ := blk5 HW.out.b5
          obtain ⟨e0, e1, e2, e3, e4⟩ := blk5 HW.out.b4
          have hz4 := fun i => frozenB HW.out.b4 i
          have HS5 := Lib.hid (set5 HW.out.b4 (.int .i64 5) (.string ⟨#[]⟩) (.slice none 0 0) (.slice none 0 0) (.slice apX D.length capX))
          have HNB := Lib.hid (OwnK.typed HW.out.own)
          clear hrow hown hfin
          go_wp2_with fail
          refine bodyPost_ret (v := .agg #[.int .i64 5, .string ⟨#[]⟩, .slice none 0 0, .slice none 0 0, .slice apX D.length capX]) ((results_cell rfl _ _ _).trans ?_) rfl ?_
          · obtain ⟨f0, f1, f2, f3, f4⟩ := blk5 HS5.out.1
            generalize (((((wr.setCell ⟨b, 0, none⟩ (.int .i64 5)).setCell ⟨b, 1, none⟩ (.string ⟨#[]⟩)).setCell ⟨b, 2, none⟩ (.slice none 0 0)).setCell ⟨b, 3, none⟩ (.slice none 0 0)).setCell ⟨b, 4, none⟩ (.slice apX D.length capX)) = W6 at *
            go_simp
          · exact vend (v := ⟨5, [], [], [], D⟩) (w3 := wr) HW.out.kg HW.out.rd hlt HB.out HW.out.b4 HS5.out.2 (RowV.nil _) (RowK.nil _) HROW.out (TypedT.nil _ _) (TypedT.nil _ _) HNB.out
  have hm := HM.out
  rw [if_neg h1] at hm
  simp only [h2, h3, h4, h5, or_self, if_false] at hm
  have HT := Lib.hid (pfourR g l)
  go_enter Tryd.func40, Tryd.ntmps40
  go_wp2_with fail
  generalize (w.alloc (.cells #[.int .i64 0, .string ⟨#[]⟩, .slice none 0 0, .slice none 0 0, .slice none 0 0] 54)).alloc (.cells #[.int .i64 k, .string ⟨#[]⟩, .slice none 0 0, .slice none 0 0, .slice none 0 0] 54) = W5 at *
  generalize hb : w.heap.size = b at *
  have HB := Lib.hid hb
  clear hb
  refine (HT.out W5 (HR.out.kept HK5.out) (by omega)).mono ?_
  rintro e w2 ⟨hk, he⟩
  cases htk : numB 4 l with
  | none =>
    rw [htk] at he hm
    simp only at he hm
    subst he hm
    exact ⟨rfl, (HK5.out.kg g).trans hk, rfl⟩
  | some p =>
    obtain ⟨n, r⟩ := p
    rw [htk] at he hm
    simp only at he hm
    obtain ⟨v, rfl, rfl, hr⟩ := he
    have HR2 := Lib.hid hr
    have HK2 := Lib.hid ((HK5.out.kg g).trans hk)
    have HG42 := Lib.hid (KG.heap hk HG45.out (by omega))
    have HG52 := Lib.hid (KG.heap hk HG5.out (by omega))
    have hn4 := numB_bound htk
    clear hr hk htk HM HG45 HG5 HK5 HSZ
    by_cases hn0 : n = 0
    · rw [if_pos hn0] at hm
      subst hm hn0
      obtain ⟨d0, d1, d2, d3, d4⟩ := blk5 HG52.out
      obtain ⟨e0, e1, e2, e3, e4⟩ := blk5 HG42.out
      have hz4 := fun i => frozenB HG42.out i
      have HS5 := Lib.hid (set5 HG42.out (.int .i64 k) (.string ⟨#[]⟩) (.slice none 0 0) (.slice none 0 0) (.slice none 0 0))
      go_wp2_with fail
      go_loopw [6] (fun v6 wr => v6 = .int .i64 0 ∧ wr = w2) (fun v6 _ => (intOf v6).toNat)
      case atStart => exact ⟨rfl, rfl⟩
      case round =>
        obtain ⟨rfl, rfl⟩ := hrel
        go_wp2_with fail
        refine bodyPost_ret (v := .agg #[.int .i64 k, .string ⟨#[]⟩, .slice none 0 0, .slice none 0 0, .slice none 0 0]) ((results_cell rfl _ _ _).trans ?_) rfl ?_
        · obtain ⟨f0, f1, f2, f3, f4⟩ := blk5 HS5.out.1
          generalize (((((wr.setCell ⟨b, 0, none⟩ (.int .i64 k)).setCell ⟨b, 1, none⟩ (.string ⟨#[]⟩)).setCell ⟨b, 2, none⟩ (.slice none 0 0)).setCell ⟨b, 3, none⟩ (.slice none 0 0)).setCell ⟨b, 4, none⟩ (.slice none 0 0)) = W6 at *
          go_simp
        · exact vend (v := ⟨k, [], [], [], []⟩) (w3 := wr) HK2.out HR2.out hlt HB.out HG42.out HS5.out.2 (RowV.nil _) (RowK.nil _) (RowK.nil _) (TypedT.nil _ _) (TypedT.nil _ _) (TypedT.nil _ _)
    · rw [if_neg hn0] at hm
      subst hm
      have hpos : 0 < n := by omega
      go_wp2_with fail
      go_loopw [6] (fun v6 wr => v6 = .int .i64 n ∧ wr = w2) (fun v6 _ => (intOf v6).toNat)
      case atStart => exact ⟨rfl, rfl⟩
      case round =>
        obtain ⟨rfl, rfl⟩ := hrel
        go_wp2_with fail
        exact ⟨rfl, HK2.out, rfl⟩
end Go.Proofs.YtfhlhpknobkplaaDoor
namespace Go.Proofs.YtfhlhpknobkplaaDoor
open Go.RowKit
attribute [local go_sem] fold_part fold_some fold_some' partAt_zero

/-- The rows of an entry, each in a block of its type. -/
structure SubT (w : World) (m : EntM) : Prop where
  subs : SubsV w m
  tL : TypedT w m.vL 9
  tZ : TypedT w m.vZ 99
  tH : TypedT w m.vH 87
/-- .. and they stand where nothing but a block of another type turns. -/
theorem SubT.keptB {w w' : World} {m : EntM} {b : Nat} {cs : Array Value} {T : TypeId} {fz : Nat × Nat} (h : SubT w m) (hb : w.heap[b]? = some (.cells cs T fz)) (hT : ¬ (9 = T) ∧ ¬ (99 = T) ∧ ¬ (87 = T)) (hk : Kept (fun k => k = b) w w') : SubT w' m := by
  have kL := h.tL.ne hb hT.1
  have kZ := h.tZ.ne hb hT.2.1
  have kH := h.tH.ne hb hT.2.2
  exact ⟨⟨h.subs.1.kept hk kL, h.subs.2.1.keptS hk kZ, h.subs.2.2.keptS hk kH⟩, h.tL.keptS hk kL, h.tZ.keptS hk kZ, h.tH.keptS hk kH⟩
theorem SubT.kept {w w' : World} {m : EntM} (h : SubT w m) (hk : Kept NoBlock w w') : SubT w' m :=
  ⟨h.subs.kept hk, h.tL.keptS hk (fun _ _ h => h), h.tZ.keptS hk (fun _ _ h => h), h.tH.keptS hk (fun _ _ h => h)⟩
/-- An entry as it is handed back. -/
def EntR (e : Ent) (x : Value) (w : World) : Prop := ∃ m : EntM, m.e = e ∧ x = entA m ∧ SubT w m
theorem set7 {w : World} {g : Nat} {a b c d e f h : Value} {T : TypeId} (hg : w.heap[g]? = some (.cells #[a, b, c, d, e, f, h] T (0, 0))) (a' b' c' d' e' f' h' : Value) :
    (((((((w.setCell ⟨g, 0, none⟩ a').setCell ⟨g, 1, none⟩ b').setCell ⟨g, 2, none⟩ c').setCell ⟨g, 3, none⟩ d').setCell ⟨g, 4, none⟩ e').setCell ⟨g, 5, none⟩ f').setCell ⟨g, 6, none⟩ h').heap[g]? = some (.cells #[a', b', c', d', e', f', h'] T (0, 0)) ∧
    Kept (fun k => k = g) w (((((((w.setCell ⟨g, 0, none⟩ a').setCell ⟨g, 1, none⟩ b').setCell ⟨g, 2, none⟩ c').setCell ⟨g, 3, none⟩ d').setCell ⟨g, 4, none⟩ e').setCell ⟨g, 5, none⟩ f').setCell ⟨g, 6, none⟩ h') := by
  refine ⟨by rw [heap_setCell_same (heap_setCell_same (heap_setCell_same (heap_setCell_same (heap_setCell_same (heap_setCell_same (heap_setCell_same hg 0 a') 1 b') 2 c') 3 d') 4 e') 5 f') 6 h']; simp, ?_⟩
  exact Kept.setCell (S := fun k => k = g) (p := ⟨g, 6, none⟩) (Kept.setCell (S := fun k => k = g) (p := ⟨g, 5, none⟩) (Kept.setCell (S := fun k => k = g) (p := ⟨g, 4, none⟩) (Kept.setCell (S := fun k => k = g) (p := ⟨g, 3, none⟩) (Kept.setCell (S := fun k => k = g) (p := ⟨g, 2, none⟩) (Kept.setCell (S := fun k => k = g) (p := ⟨g, 1, none⟩) (Kept.setCell (S := fun k => k = g) (p := ⟨g, 0, none⟩) (Kept.refl _ w) (fun _ => rfl) _) (fun _ => rfl) _) (fun _ => rfl) _) (fun _ => rfl) _) (fun _ => rfl) _) (fun _ => rfl) _) (fun _ => rfl) _

set_option maxRecDepth 100000 in
set_option maxHeartbeats 1600000 in
theorem pentryR (g : Nat) (l : Bs) (w : World) (h : RdS w g l) (hl : l.length ≤ 100000000) :
    Calls Tryd.prog 27 #[.pointer (some ⟨g, 0, none⟩)] w (EndS g (getE l) EntR w) := by
  have HR := Lib.hid h
  have hlt := h.lt
  generalize hM : getE l = M
  have HM := Lib.hid hM
  unfold getE at HM
  have HK4 := Lib.hid (Kept.allocd w (.cells #[.string ⟨#[]⟩, .int .i64 0, .string ⟨#[]⟩, .slice none 0 0, .slice none 0 0, .slice none 0 0, .int .i64 0] 56))
  have HG4 := Lib.hid (heap_alloc_new w (.cells #[.string ⟨#[]⟩, .int .i64 0, .string ⟨#[]⟩, .slice none 0 0, .slice none 0 0, .slice none 0 0, .int .i64 0] 56))
  have ht := ptake g l 1
  rw [show (((1 : Nat) : Int)) = 1 from rfl] at ht
  have HT := Lib.hid ht
  clear h hM ht
  go_enter Tryd.func27, Tryd.ntmps27
  go_wp2_with fail
  generalize w.alloc (.cells #[.string ⟨#[]⟩, .int .i64 0, .string ⟨#[]⟩, .slice none 0 0, .slice none 0 0, .slice none 0 0, .int .i64 0] 56) = W4 at *
  generalize hb : w.heap.size = b at *
  have HB := Lib.hid hb
  clear hb
  refine (HT.out W4 (HR.out.kept HK4.out) (by decide) (by omega)).mono ?_
  rintro e w2 ⟨hk, he⟩
  have hm := HM.out
  have hk2 := (HK4.out.kg g).trans hk
  have hg2 := KG.heap hk HG4.out (by omega)
  clear hk
  cases htk : takeB 1 l with
  | none =>
    have hnb : numB 1 l = none := by unfold numB; rw [htk]
    rw [htk] at he
    rw [hnb] at hm
    simp only at he hm
    subst he hm
    exact ⟨rfl, hk2, rfl⟩
  | some p =>
    obtain ⟨x, r1⟩ := p
    have hnb : numB 1 l = some (leV x, r1) := by unfold numB; rw [htk]
    rw [htk] at he
    rw [hnb] at hm
    simp only at he hm
    obtain ⟨v, rfl, hb2, hr2⟩ := he
    obtain ⟨hx1, hr1l⟩ := takeB_len htk
    obtain ⟨c, rfl⟩ : ∃ c, x = [c] := by
      cases x with
      | nil => simp at hx1
      | cons c t => cases t with
        | nil => exact ⟨c, rfl⟩
        | cons d t => simp at hx1
    have hlv : leV [c] = c.toNat := by simp [leV]
    rw [hlv] at hm
    obtain ⟨bp, bc, rfl, _⟩ := hb2.parts
    obtain ⟨bd, rfl, hbc⟩ := RowV.cell (show RowV w2 _ _ from hb2) (i := 0) (v := bv c) rfl
    unfold bv at hbc
    have hcl := c.toNat_lt
    have HR2 := Lib.hid hr2
    have HK2 := Lib.hid hk2
    have HG2 := Lib.hid hg2
    have HM2 := Lib.hid hm
    have had : bd.add 0 = bd := by simp [Addr.add]
    rw [had] at hbc
    clear hr2 hk2 hg2 hm HM hb2 htk hnb hlv hx1 had HT HG4
    go_wp2_with fail
    (with_reducible refine (peightR g r1 w2 HR2.out (by omega)).mono ?_)
    rintro e w3 ⟨hk, he⟩
    have hm := HM2.out
    have hk3 := HK2.out.trans hk
    have hg3 := KG.heap hk HG2.out (by omega)
    clear hk
    cases htk : numB 8 r1 with
    | none =>
      rw [htk] at he hm
      simp only at he hm
      subst he hm
      exact ⟨rfl, hk3, rfl⟩
    | some p =>
      obtain ⟨n, r2⟩ := p
      rw [htk] at he hm
      simp only at he hm
      obtain ⟨v, rfl, rfl, hr3⟩ := he
      have hr2l := numB_len htk
      have hwr := wrap_i64 n (numB_lt htk)
      have HR3 := Lib.hid hr3
      have HK3 := Lib.hid hk3
      have HG3 := Lib.hid hg3
      have HM3 := Lib.hid hm
      clear hr3 hk3 hg3 hm htk hbc HM2 HR2 HK2 HG2
      go_wp2_with fail
      (with_reducible refine (ptextR g r2 w3 HR3.out (by omega)).mono ?_)
      rintro e w4 ⟨hk, he⟩
      have hm := HM3.out
      have hk4 := HK3.out.trans hk
      have hg4 := KG.heap hk HG3.out (by omega)
      clear hk hwr
      cases htk : txtB r2 with
      | none =>
        rw [htk] at he hm
        simp only at he hm
        subst he hm
        exact ⟨rfl, hk4, rfl⟩
      | some p =>
        obtain ⟨key, r3⟩ := p
        rw [htk] at he hm
        simp only at he hm
        obtain ⟨v, rfl, rfl, hr4⟩ := he
        have hr3l := txtB_len htk
        have HR4 := Lib.hid hr4
        have HK4 := Lib.hid hk4
        have HG4 := Lib.hid hg4
        have HM4 := Lib.hid hm
        clear hr4 hk4 hg4 hm htk HM3 HR3 HK3 HG3
        unfold strV
        go_wp2_with fail
        (with_reducible refine (pvalueR g r3 (c.toNat : Int) w4 HR4.out (by omega)).mono ?_)
        rintro e w5 ⟨hk, he⟩
        have hm := HM4.out
        have hk5 := HK4.out.trans hk
        have hg5 := KG.heap hk HG4.out (by omega)
        clear hk
        cases htk : getV (c.toNat : Int) r3 with
        | none =>
          rw [htk] at he hm
          simp only at he hm
          subst he hm
          exact ⟨rfl, hk5, rfl⟩
        | some p =>
          obtain ⟨v, q⟩ := p
          rw [htk] at he hm
          simp only at he hm
          obtain ⟨x, rfl, ⟨vL, vZ, vH, rfl, hL, hZ, hH, nL, nZ, nH⟩, hr5⟩ := he
          subst hm
          obtain ⟨apL, capL, rfl, _⟩ := hL.parts
          obtain ⟨apZ, capZ, rfl, _⟩ := hZ.parts
          obtain ⟨apH, capH, rfl, _⟩ := hH.parts
          obtain ⟨kk, s, L, Z, H⟩ := v
          simp only [List.length_map] at hL hZ hH nL nZ nH ⊢
          have HS7 := Lib.hid (set7 hg5 (.string ⟨key.toArray⟩) (.int .i64 kk) (.string ⟨s.toArray⟩) (.slice apL L.length capL) (.slice apZ Z.length capZ) (.slice apH H.length capH) (.int .i64 (wrapS n)))
          obtain ⟨a0, a1, a2, a3, a4, a5, a6⟩ := blk7 hg5
          have hz := fun i => frozenB hg5 i
          have HST := Lib.hid (SubT.mk (m := ⟨⟨key, ⟨kk, s, L, Z, H⟩, wrapS n⟩, .slice apL L.length capL, .slice apZ Z.length capZ, .slice apH H.length capH⟩) ⟨hL, hZ, hH⟩ nL nZ nH)
          have HG5 := Lib.hid hg5
          have HR5 := Lib.hid hr5
          have HK5 := Lib.hid hk5
          have hbw := lt_of_heap HG4.out
          clear hL hZ hH nL nZ nH hr5 hk5 hg5 htk HM4
          unfold strV
          go_wp2_with fail
          refine bodyPost_ret (v := .agg #[.string ⟨key.toArray⟩, .int .i64 kk, .string ⟨s.toArray⟩, .slice apL L.length capL, .slice apZ Z.length capZ, .slice apH H.length capH, .int .i64 (wrapS n)]) ((results_cell rfl _ _ _).trans ?_) rfl ?_
          · obtain ⟨f0, f1, f2, f3, f4, f5, f6⟩ := blk7 HS7.out.1
            generalize ((((((w5.setCell ⟨b, 0, none⟩ (.string ⟨key.toArray⟩)).setCell ⟨b, 1, none⟩ (.int .i64 kk)).setCell ⟨b, 2, none⟩ (.string ⟨s.toArray⟩)).setCell ⟨b, 3, none⟩ (.slice apL L.length capL)).setCell ⟨b, 4, none⟩ (.slice apZ Z.length capZ)).setCell ⟨b, 5, none⟩ (.slice apH H.length capH)).setCell ⟨b, 6, none⟩ (.int .i64 (wrapS n)) = W6 at *
            go_simp
          · have hks := HS7.out.2
            exact ⟨Kept.trans' HK5.out hks (fun i hi e => by have := HB.out; omega), _, rfl, ⟨⟨⟨key, ⟨kk, s, L, Z, H⟩, wrapS n⟩, .slice apL L.length capL, .slice apZ Z.length capZ, .slice apH H.length capH⟩, rfl, rfl, HST.out.keptB HG5.out (by decide) hks⟩, HR5.out.keptS hks (fun i hi e => by omega)⟩
end Go.Proofs.YtfhlhpknobkplaaDoor
namespace Go.Proofs.YtfhlhpknobkplaaDoor

theorem textB_len (s : Bs) : (textB s).length = 4 + s.length := by unfold textB; rw [List.length_append, leB_len]
theorem getL_len : ∀ (n : Nat) (b : Bs) {l : List Bs} {r : Bs}, getL n b = some (l, r) → (l.flatMap textB).length + r.length = b.length ∧ l.length = n
  | 0, b, l, r, h => by simp [getL] at h; obtain ⟨rfl, rfl⟩ := h; simp
  | n + 1, b, l, r, h => by
    cases ht : txtB b with
    | none => rw [getL, ht] at h; cases h
    | some p =>
      obtain ⟨x, r1⟩ := p
      rw [getL, ht] at h
      simp only at h
      cases hg : getL n r1 with
      | none => rw [hg] at h; cases h
      | some p =>
        obtain ⟨l2, q⟩ := p
        rw [hg] at h
        simp only at h
        cases h
        obtain ⟨h1, h2⟩ := getL_len n r1 hg
        have := txtB_len ht
        rw [List.flatMap_cons, List.length_append, textB_len, List.length_cons]
        omega
theorem getZ_len : ∀ (n : Nat) (b : Bs) {l : List (Bs × Int)} {r : Bs}, getZ n b = some (l, r) → (l.flatMap (fun z => textB z.1 ++ leB 8 (wrapU z.2))).length + r.length = b.length ∧ l.length = n ∧ ∀ z ∈ l, z.1.length ≤ b.length
  | 0, b, l, r, h => by simp [getZ] at h; obtain ⟨rfl, rfl⟩ := h; simp
  | n + 1, b, l, r, h => by
    cases ht : txtB b with
    | none => rw [getZ, ht] at h; cases h
    | some p =>
      obtain ⟨x, r1⟩ := p
      rw [getZ, ht] at h
      simp only at h
      cases hk : numB 8 r1 with
      | none => rw [hk] at h; cases h
      | some p =>
        obtain ⟨k, r2⟩ := p
        rw [hk] at h
        simp only at h
        cases hg : getZ n r2 with
        | none => rw [hg] at h; cases h
        | some p =>
          obtain ⟨l2, q⟩ := p
          rw [hg] at h
          simp only at h
          cases h
          obtain ⟨h1, h2, h3⟩ := getZ_len n r2 hg
          have := txtB_len ht
          have := numB_len hk
          refine ⟨?_, by rw [List.length_cons, h2], fun z hz => ?_⟩
          · rw [List.flatMap_cons, List.length_append, List.length_append, textB_len, leB_len]
            simp only
            omega
          · rcases List.mem_cons.1 hz with rfl | hz
            · simp only; omega
            · have := h3 z hz; omega
theorem getH_len : ∀ (n : Nat) (b : Bs) {l : List (Bs × Bs)} {r : Bs}, getH n b = some (l, r) → (l.flatMap (fun f => textB f.1 ++ textB f.2)).length + r.length = b.length ∧ l.length = n
  | 0, b, l, r, h => by simp [getH] at h; obtain ⟨rfl, rfl⟩ := h; simp
  | n + 1, b, l, r, h => by
    cases ht : txtB b with
    | none => rw [getH, ht] at h; cases h
    | some p =>
      obtain ⟨x, r1⟩ := p
      rw [getH, ht] at h
      simp only at h
      cases hk : txtB r1 with
      | none => rw [hk] at h; cases h
      | some p =>
        obtain ⟨k, r2⟩ := p
        rw [hk] at h
        simp only at h
        cases hg : getH n r2 with
        | none => rw [hg] at h; cases h
        | some p =>
          obtain ⟨l2, q⟩ := p
          rw [hg] at h
          simp only at h
          cases h
          obtain ⟨h1, h2⟩ := getH_len n r2 hg
          have := txtB_len ht
          have := txtB_len hk
          refine ⟨?_, by rw [List.length_cons, h2]⟩
          rw [List.flatMap_cons, List.length_append, List.length_append, textB_len, textB_len]
          simp only
          omega
theorem flat_le {α : Type} (f : α → Bs) (hf : ∀ x, 1 ≤ (f x).length) (l : List α) : l.length ≤ (l.flatMap f).length := flat_many f hf
theorem getV_len {k : Int} {b r : Bs} {v : Val} (h : getV k b = some (v, r)) : (bodyV v).length + r.length = b.length ∧ v.kind = k ∧ v.L.length ≤ b.length ∧ v.Z.length ≤ b.length ∧ v.H.length ≤ b.length ∧ ∀ z ∈ v.Z, z.1.length ≤ b.length := by
  unfold getV at h
  split at h
  · rename_i hk
    cases ht : txtB b with
    | none => rw [ht] at h; cases h
    | some p =>
      obtain ⟨s, r1⟩ := p
      rw [ht] at h
      simp only at h
      cases h
      have := txtB_len ht
      refine ⟨?_, rfl, by simp, by simp, by simp, by simp⟩
      simp only [bodyV, if_pos hk, textB_len]
      omega
  · rename_i hk
    cases hn : numB 4 b with
    | none => rw [hn] at h; cases h
    | some p =>
      obtain ⟨n, r1⟩ := p
      rw [hn] at h
      simp only at h
      have hnl := numB_len hn
      split at h
      · rename_i hk2
        cases hg : getL n r1 with
        | none => rw [hg] at h; cases h
        | some p =>
          obtain ⟨l2, q⟩ := p
          rw [hg] at h
          simp only at h
          cases h
          obtain ⟨h1, h2⟩ := getL_len n r1 hg
          have h3 := flat_le textB (fun s => by rw [textB_len]; omega) l2
          refine ⟨?_, rfl, by simp only; omega, by simp, by simp, by simp⟩
          simp only [bodyV, if_neg hk, if_neg (show ¬ (k = 4) by omega), if_neg (show ¬ (k = 5) by omega), List.length_append, leB_len]
          omega
      · rename_i hk2
        split at h
        · rename_i hk4
          cases hg : getZ n r1 with
          | none => rw [hg] at h; cases h
          | some p =>
            obtain ⟨l2, q⟩ := p
            rw [hg] at h
            simp only at h
            cases h
            obtain ⟨h1, h2, hz⟩ := getZ_len n r1 hg
            have h3 := flat_le (fun z : Bs × Int => textB z.1 ++ leB 8 (wrapU z.2)) (fun s => by rw [List.length_append, textB_len]; omega) l2
            refine ⟨?_, rfl, by simp, by simp only; omega, by simp, fun z hz' => by have := hz z hz'; omega⟩
            simp only [bodyV, if_neg hk, if_pos hk4]; rw [List.length_append, leB_len]
            omega
        · rename_i hk4
          split at h
          · rename_i hk5
            cases hg : getH n r1 with
            | none => rw [hg] at h; cases h
            | some p =>
              obtain ⟨l2, q⟩ := p
              rw [hg] at h
              simp only at h
              cases h
              obtain ⟨h1, h2⟩ := getH_len n r1 hg
              have h3 := flat_le (fun f : Bs × Bs => textB f.1 ++ textB f.2) (fun s => by rw [List.length_append, textB_len]; omega) l2
              refine ⟨?_, rfl, by simp, by simp, by simp only; omega, by simp⟩
              simp only [bodyV, if_neg hk, if_neg hk4, if_pos hk5]; rw [List.length_append, leB_len]
              omega
          · rename_i hk5
            split at h
            · cases h
              refine ⟨?_, rfl, by simp, by simp, by simp, by simp⟩
              simp only [bodyV, if_neg hk, if_neg hk4, if_neg hk5, List.length_append, leB_len, List.flatMap_nil, List.length_nil]
              omega
            · cases h
def SizedN (n : Nat) (e : Ent) : Prop := e.v.L.length ≤ n ∧ e.v.Z.length ≤ n ∧ e.v.H.length ≤ n ∧ ∀ z ∈ e.v.Z, z.1.length ≤ n
theorem SizedN.mono {n m : Nat} {e : Ent} (h : SizedN n e) (hm : n ≤ m) : SizedN m e := ⟨Nat.le_trans h.1 hm, Nat.le_trans h.2.1 hm, Nat.le_trans h.2.2.1 hm, fun z hz => Nat.le_trans (h.2.2.2 z hz) hm⟩
theorem SizedN.sized {n : Nat} {e : Ent} (h : SizedN n e) (hn : n ≤ 70000000) : SizedM e := ⟨Nat.le_trans h.1 hn, Nat.le_trans h.2.1 hn, Nat.le_trans h.2.2.1 hn, fun z hz => by have := h.2.2.2 z hz; omega⟩
theorem getE_len {b r : Bs} {e : Ent} (h : getE b = some (e, r)) : (entB e).length + r.length = b.length ∧ SizedN b.length e := by
  unfold getE at h
  cases h1 : numB 1 b with
  | none => rw [h1] at h; cases h
  | some p =>
    obtain ⟨k, r1⟩ := p
    rw [h1] at h
    simp only at h
    cases h2 : numB 8 r1 with
    | none => rw [h2] at h; cases h
    | some p =>
      obtain ⟨a, r2⟩ := p
      rw [h2] at h
      simp only at h
      cases h3 : txtB r2 with
      | none => rw [h3] at h; cases h
      | some p =>
        obtain ⟨key, r3⟩ := p
        rw [h3] at h
        simp only at h
        cases h4 : getV k r3 with
        | none => rw [h4] at h; cases h
        | some p =>
          obtain ⟨v, q⟩ := p
          rw [h4] at h
          simp only at h
          cases h
          have l1 := numB_len h1
          have l2 := numB_len h2
          have l3 := txtB_len h3
          obtain ⟨l4, _, a1, a2, a3, a4⟩ := getV_len h4
          refine ⟨?_, by simp only; omega, by simp only; omega, by simp only; omega, fun z hz => by have := a4 z hz; omega⟩
          simp only [entB, List.length_cons, List.length_append, leB_len, textB_len]
          omega
theorem getEs_len : ∀ (n : Nat) (b : Bs) {l : List Ent} {r : Bs}, getEs n b = some (l, r) → (l.flatMap entB).length + r.length = b.length ∧ l.length = n ∧ ∀ e ∈ l, SizedN b.length e
  | 0, b, l, r, h => by simp [getEs] at h; obtain ⟨rfl, rfl⟩ := h; simp
  | n + 1, b, l, r, h => by
    cases ht : getE b with
    | none => rw [getEs, ht] at h; cases h
    | some p =>
      obtain ⟨e, r1⟩ := p
      rw [getEs, ht] at h
      simp only at h
      cases hg : getEs n r1 with
      | none => rw [hg] at h; cases h
      | some p =>
        obtain ⟨l2, q⟩ := p
        rw [hg] at h
        simp only at h
        cases h
        obtain ⟨h1, h2, h3⟩ := getEs_len n r1 hg
        obtain ⟨h4, h5⟩ := getE_len ht
        refine ⟨?_, by rw [List.length_cons, h2], fun e' he => ?_⟩
        · rw [List.flatMap_cons, List.length_append]; omega
        · rcases List.mem_cons.1 he with rfl | he
          · exact h5
          · exact (h3 e' he).mono (by omega)
end Go.Proofs.YtfhlhpknobkplaaDoor
namespace Go.Proofs.YtfhlhpknobkplaaDoor
open Go.RowKit
attribute [local go_sem] fold_part fold_some fold_some' partAt_zero

/-- The three results' boxes. -/
structure Dx (w : World) (H : Nat) (a b c d lv ev : Value) : Prop where
  b0 : w.heap[H]? = some (.cells #[a, b, c, d] 32 (0, 0))
  b1 : w.heap[H + 1]? = some (.cells #[lv] 33 (0, 0))
  b2 : w.heap[H + 2]? = some (.cells #[ev] 34 (0, 0))
theorem Dx.kept {w w' : World} {H : Nat} {a b c d lv ev : Value} (h : Dx w H a b c d lv ev) (hk : Kept NoBlock w w') : Dx w' H a b c d lv ev := ⟨hk.heap h.b0 (fun h => h), hk.heap h.b1 (fun h => h), hk.heap h.b2 (fun h => h)⟩
theorem Dx.keptS {S : Nat → Prop} {w w' : World} {H : Nat} {a b c d lv ev : Value} (h : Dx w H a b c d lv ev) (hk : Kept S w w') (hS : ∀ i, i ≤ H + 2 → ¬ S i) : Dx w' H a b c d lv ev := ⟨hk.heap h.b0 (hS _ (by omega)), hk.heap h.b1 (hS _ (by omega)), hk.heap h.b2 (hS _ (by omega))⟩

def DS (H : Nat) (k : Nat) : Prop := k = H ∨ k = H + 1 ∨ k = H + 2
/-- All stored. -/
theorem Dx.set {w : World} {H : Nat} {a b c d lv ev : Value} (h : Dx w H a b c d lv ev) (a' b' c' d' lv' ev' : Value) :
    Dx ((((((w.setCell ⟨H, 0, none⟩ a').setCell ⟨H, 1, none⟩ b').setCell ⟨H, 2, none⟩ c').setCell ⟨H, 3, none⟩ d').setCell ⟨H + 1, 0, none⟩ lv').setCell ⟨H + 2, 0, none⟩ ev') H a' b' c' d' lv' ev' ∧
    Kept (DS H) w ((((((w.setCell ⟨H, 0, none⟩ a').setCell ⟨H, 1, none⟩ b').setCell ⟨H, 2, none⟩ c').setCell ⟨H, 3, none⟩ d').setCell ⟨H + 1, 0, none⟩ lv').setCell ⟨H + 2, 0, none⟩ ev') := by
  refine ⟨⟨?_, ?_, ?_⟩, ?_⟩
  · refine heap_set_ne (heap_set_ne ?_ (by simp)) (by simp)
    rw [heap_setCell_same (heap_setCell_same (heap_setCell_same (heap_setCell_same h.b0 0 a') 1 b') 2 c') 3 d']
    simp
  · refine heap_set_ne (heap_setCell_same (heap_set_ne (heap_set_ne (heap_set_ne (heap_set_ne h.b1 (by simp)) (by simp)) (by simp)) (by simp)) 0 lv') (by simp)
  · refine heap_setCell_same (heap_set_ne (heap_set_ne (heap_set_ne (heap_set_ne (heap_set_ne h.b2 (by simp)) (by simp)) (by simp)) (by simp)) (by simp)) 0 ev'
  · exact Kept.setCell (S := DS H) (p := ⟨H + 2, 0, none⟩) (Kept.setCell (S := DS H) (p := ⟨H + 1, 0, none⟩) (Kept.setCell (S := DS H) (p := ⟨H, 3, none⟩) (Kept.setCell (S := DS H) (p := ⟨H, 2, none⟩) (Kept.setCell (S := DS H) (p := ⟨H, 1, none⟩) (Kept.setCell (S := DS H) (p := ⟨H, 0, none⟩) (Kept.refl _ w) (fun _ => .inl rfl) _) (fun _ => .inl rfl) _) (fun _ => .inl rfl) _) (fun _ => .inl rfl) _) (fun _ => .inr (.inl rfl)) _) (fun _ => .inr (.inr rfl)) _

theorem ta_errno (w : World) : (Instr.typeAssert (.iface 34 (.int .i64 200)) 20 34 true).run Tryd.prog w = .ok (.tuple #[.int .i64 200, .bool true]) w := by kernel_rfl

/-- What the closure leaves behind a fault of the reader. -/
def CaughtD (H : Nat) (w : World) (e : Ending) (u' : FrameMode) (w' : World) : Prop :=
  e = .returned (.tuple #[]) ∧ u' = .panicking [{ v := .iface 34 (.int .i64 200), recovered := true }] ∧ Dx w' H (.int .u64 0) (.int .i64 0) (.int .u64 0) (.int .i64 0) (.slice none 0 0) (.int .i64 200) ∧ Kept (DS H) w w'

set_option maxRecDepth 100000 in
set_option maxHeartbeats 1600000 in
theorem dcatch (H : Nat) (a b c d lv ev : Value) (w : World) (h : Dx w H a b c d lv ev) :
    CallsD Tryd.prog 23 #[.pointer (some ⟨H, 0, none⟩), .pointer (some ⟨H + 1, 0, none⟩), .pointer (some ⟨H + 2, 0, none⟩)] (.panicking snapE) w (CaughtD H w) := by
  obtain ⟨c0, c1, c2, c3⟩ := blk4 h.b0
  have z0 := fun i => frozenB h.b0 i
  obtain ⟨d1, z1⟩ := blk1' h.b1
  obtain ⟨d2, z2⟩ := blk1' h.b2
  have HH := Lib.hid h
  clear h
  have hta := ta_errno
  refine callsD_of_wpS Tryd.func23 rfl fun c₀ cs hu => ?_
  simp only [Tryd.ntmps23, List.size_toArray, List.length_cons, List.length_nil, Nat.reduceAdd, Nat.reduceSub, Array.replicate_succ, Array.replicate_zero, List.push_toArray, List.append_toArray, List.nil_append, List.cons_append]
  apply wpS_seq
  apply wpS_region
  simp [wpOpsS, go_sem, recoverD, hu, snapE, Exit.thenS]
  refine wpS_of_wp ?_
  clear hu
  go_wp2
  exact ⟨rfl, _, rfl, _, results_none rfl _ _ _, rfl, rfl, HH.out.set _ _ _ _ _ _⟩
set_option maxRecDepth 100000 in
set_option maxHeartbeats 1600000 in
theorem didle (p1 p2 p3 : Value) (w : World) :
    CallsD Tryd.prog 23 #[p1, p2, p3] .returning w fun e u' w' => e = .returned (.tuple #[]) ∧ u' = .returning ∧ w = w' := by
  refine callsD_of_wpS Tryd.func23 rfl fun c₀ cs hu => ?_
  simp only [Tryd.ntmps23, List.size_toArray, List.length_cons, List.length_nil, Nat.reduceAdd, Nat.reduceSub, Array.replicate_succ, Array.replicate_zero, List.push_toArray, List.append_toArray, List.nil_append, List.cons_append]
  apply wpS_seq
  apply wpS_region
  simp [wpOpsS, go_sem, recoverD, hu, Exit.thenS]
  refine wpS_of_wp ?_
  go_wp2
  refine ⟨rfl, .returning, ?_, _, results_none rfl _ _ _, rfl, rfl, rfl⟩
  cases c₀
  simp_all
end Go.Proofs.YtfhlhpknobkplaaDoor
namespace Go.Proofs.YtfhlhpknobkplaaDoor
open Go.RowKit
attribute [local go_sem] fold_part fold_some fold_some' partAt_zero

/-- What a decoder leaves. -/
def DecEnd (w : World) (M : Except Int (Nat × Int × List Ent)) (e : Ending) (w' : World) : Prop :=
  Kept NoBlock w w' ∧ match M with
  | .ok (id, off, l) => ∃ v ms, e = .returned (.tuple #[.agg #[.int .u64 id, .int .i64 off, .int .u64 0, .int .i64 0], v, .int .i64 0]) ∧ ms.map (·.e) = l ∧ EntsV w' v ms
  | .error c => e = .returned (.tuple #[.agg #[.int .u64 0, .int .i64 0, .int .u64 0, .int .i64 0], .slice none 0 0, .int .i64 c])

theorem only_normal {P : Program} {c : Code} {Q : Exit → Act → World → Prop} {a : Act} {w : World} (h : c.wp P (fun x a w => x = .normal ∧ Q .normal a w) a w) : c.wp P Q a w :=
  Code.wp_mono (fun x a w h => by obtain ⟨rfl, h⟩ := h; exact h) h
theorem no_panic {Q : Exit → Act → World → Prop} : ∀ (c : List PanicEntry) (a : Act) (w : World) (dst : Option Tmp) (v : Value), (fun (x : Exit) a w => x = .normal ∧ Q .normal a w) (.panic c) (a.put dst v) w → (fun (x : Exit) a w => x = .normal ∧ Q .normal a w) (.panic c) a w := fun _ _ _ _ _ h => by cases h.1

/-- The three boxes, laid. -/
def W3 (w : World) : World := ((w.alloc (.cells #[.int .u64 0, .int .i64 0, .int .u64 0, .int .i64 0] 32)).alloc (.cells #[.slice none 0 0] 33)).alloc (.cells #[.int .i64 0] 34)
theorem W3_kept (w : World) : Kept NoBlock w (W3 w) := (((Kept.refl NoBlock w).alloc _).alloc _).alloc _
theorem W3_size (w : World) : (W3 w).heap.size = w.heap.size + 3 := by simp [W3]
theorem W3_dx (w : World) : Dx (W3 w) w.heap.size (.int .u64 0) (.int .i64 0) (.int .u64 0) (.int .i64 0) (.slice none 0 0) (.int .i64 0) := by
  refine ⟨?_, ?_, ?_⟩ <;> simp only [W3, World.alloc] <;> (simp only [Array.getElem?_push, Array.size_push]; repeat (first | rw [if_neg (by omega)] | rw [if_pos trivial] | rw [if_pos (by omega)]))

theorem encB_err {id : Nat} {off : Int} {l : List Ent} {c : Int} (h : encB id off l = .error c) : c ≠ 0 := by
  unfold encB at h
  split at h
  · rename_i h1; cases h; exact h1
  · split at h
    · cases h; decide
    · split at h
      · cases h; decide
      · cases h
theorem SubT.keptD {w w' : World} {m : EntM} {H : Nat} {a b c d lv ev : Value} (h : SubT w m) (hd : Dx w H a b c d lv ev) (hk : Kept (DS H) w w') : SubT w' m := by
  have kL : ∀ j, vblk m.vL = some j → ¬ DS H j := fun j e hj => by
    rcases hj with rfl | rfl | rfl
    · exact h.tL.ne hd.b0 (by decide) _ e rfl
    · exact h.tL.ne hd.b1 (by decide) _ e rfl
    · exact h.tL.ne hd.b2 (by decide) _ e rfl
  have kZ : ∀ j, vblk m.vZ = some j → ¬ DS H j := fun j e hj => by
    rcases hj with rfl | rfl | rfl
    · exact h.tZ.ne hd.b0 (by decide) _ e rfl
    · exact h.tZ.ne hd.b1 (by decide) _ e rfl
    · exact h.tZ.ne hd.b2 (by decide) _ e rfl
  have kH : ∀ j, vblk m.vH = some j → ¬ DS H j := fun j e hj => by
    rcases hj with rfl | rfl | rfl
    · exact h.tH.ne hd.b0 (by decide) _ e rfl
    · exact h.tH.ne hd.b1 (by decide) _ e rfl
    · exact h.tH.ne hd.b2 (by decide) _ e rfl
  exact ⟨⟨h.subs.1.kept hk kL, h.subs.2.1.keptS hk kZ, h.subs.2.2.keptS hk kH⟩, h.tL.keptS hk kL, h.tZ.keptS hk kZ, h.tH.keptS hk kH⟩
/-- The world at the head of the entries' loop. -/
structure EsW (w : World) (g c H : Nat) (id : Nat) (off : Int) (ms : List EntM) (r' : Bs) (vX : Value) (wr : World) : Prop where
  rd : RdS wr g r'
  kw : Kept NoBlock w wr
  dx : Dx wr H (.int .u64 0) (.int .i64 0) (.int .u64 0) (.int .i64 0) (.slice none 0 0) (.int .i64 0)
  hist : wr.heap[c]? = some (.cells #[.int .u64 id, .int .i64 off, .int .u64 0, .int .i64 0] 32 (0, 0))
  own : OwnK 7 56 eCells wr (c + 1) vX ms
  subs : ∀ m ∈ ms, SubT wr m
theorem SubT.grown {w w' : World} {m : EntM} {base : Nat} {v : Value} {ms : List EntM} (h : SubT w m) (hown : OwnK 7 56 eCells w base v ms) (hg : w.grownBy w' v.ownBlock) : SubT w' m := by
  rcases hown.2 with ⟨rfl, _⟩ | ⟨b, cap, cur, rfl, hb, hc, _⟩
  · exact h.kept (Kept.grown (Kept.refl _ w) hg (fun k e _ => by simp [Value.ownBlock] at e))
  · exact h.keptB hc (by decide) (Kept.grown (Kept.refl _ w) hg (fun k e _ => by simp [Value.ownBlock] at e; exact e.symm))
theorem EsW.grow {w : World} {g c H : Nat} {id : Nat} {off : Int} {ms ms' : List EntM} {r' : Bs} {vX vX' : Value} {wr w' : World} (h : EsW w g c H id off ms r' vX wr) (hg : wr.grownBy w' vX.ownBlock) (hown : OwnK 7 56 eCells w' (c + 1) vX' ms')
    (hc : g < c) (hH : H + 2 < g) (hw : w.heap.size ≤ g) (hs : ∀ m ∈ ms', SubT w' m) : EsW w g c H id off ms' r' vX' w' := by
  have hlt := h.own.lt
  have hk := grownS (B := c + 1) hg (fun j e => (hlt j e).1)
  exact ⟨h.rd.keptS hk (fun i hi e => by omega), Kept.trans' h.kw hk (fun i hi e => by omega), h.dx.keptS hk (fun i hi e => by omega), hk.heap h.hist (by omega), hown, hs⟩
theorem EsW.kept {w : World} {g c H : Nat} {id : Nat} {off : Int} {ms : List EntM} {r' : Bs} {vX : Value} {wr w' : World} (h : EsW w g c H id off ms r' vX wr) (hk : Kept NoBlock wr w') : EsW w g c H id off ms r' vX w' :=
  ⟨h.rd.kept hk, h.kw.trans hk, h.dx.kept hk, hk.heap h.hist (fun h => h), h.own.kept hk, fun m hm => (h.subs m hm).kept hk⟩
theorem EsW.read {w : World} {g c H : Nat} {id : Nat} {off : Int} {ms : List EntM} {r' q : Bs} {vX : Value} {wr w' : World} (h : EsW w g c H id off ms r' vX wr) (hk : KG g wr w') (hr : RdS w' g q) (hc : g < c) (hH : H + 2 < g) (hw : w.heap.size ≤ g) : EsW w g c H id off ms q vX w' := by
  obtain ⟨v, hg, _⟩ := h.rd
  exact ⟨hr, Kept.trans' h.kw hk (fun i hi e => by omega), h.dx.keptS hk (fun i hi e => by omega), hk.heap h.hist (by omega), h.own.keptS hk (fun i hi _ e => by omega), fun m hm => (h.subs m hm).keptB hg (by decide) hk⟩

set_option maxRecDepth 100000 in
set_option maxHeartbeats 3200000 in
theorem pDecode (v : Value) (b : Bs) (w : World) (hV : Vs w) (h : BytesV w v b) (hl : b.length ≤ 67108864) :
    Calls Tryd.prog 14 #[v] w (DecEnd w (decB b)) := by
  obtain ⟨ap, cap, rfl, hcp, _⟩ := h.parts
  generalize hM : decB b = M
  have HM := Lib.hid hM
  unfold decB at HM
  have HV := Lib.hid hV
  have HB := Lib.hid h
  have HD := Lib.hid (W3_dx w)
  have HK := Lib.hid (W3_kept w)
  have HS := Lib.hid (W3_size w)
  have hmf : ∀ (fn : Fn) (first cap : Array Value) (w : World), (Instr.makeFunc fn first cap).run Tryd.prog w = .ok (.func fn first cap) w := fun _ _ _ _ => rfl
  obtain ⟨n, hn⟩ : ∃ n, n = b.length := ⟨_, rfl⟩
  rw [← hn] at hl HB HM hcp ⊢
  have HN := Lib.hid hn
  clear hM hV h hn
  by_cases h33 : n < 33
  · have hm : M = .error 200 := by have := HM.out; rw [if_pos (.inl h33)] at this; exact this.symm
    subst hm
    clear HM
    go_enter_defers Tryd.func14, Tryd.ntmps14
    go_wp2_with fail
    refine leaves_cons (f := 23) (args := #[.pointer (some ⟨w.heap.size, 0, none⟩), .pointer (some ⟨w.heap.size + 1, 0, none⟩), .pointer (some ⟨w.heap.size + 1 + 1, 0, none⟩)]) (by simp) (by simp [go_sem]) ?_
    refine (didle _ _ _ _).mono ?_
    rintro e u' w'' ⟨rfl, rfl, rfl⟩
    simp [Leaves, settle, results, Tryd.results14, go_sem]
    exact ⟨(((Kept.refl NoBlock w).alloc _).alloc _).alloc _, rfl⟩
  · have hn33 : ¬ ((n : Int) < 33) := by omega
    have hconv := fun w' (hk : Kept NoBlock w w') => conv_of (BytesV.front (HB.out.keptNo hk) 9 (by omega))
    have hc3 := hconv _ HK.out
    obtain ⟨S, hS⟩ : ∃ S : ByteArray, S = ⟨(b.take 9).toArray⟩ := ⟨_, rfl⟩
    rw [← hS] at hc3
    have hb9 : (S.toList == [77, 73, 76, 76, 80, 79, 78, 68, 1]) = decide (b.take 9 = signB) := by
      rw [hS, Go.ByteArray.toList_eq]
      show ((b.take 9) == signB) = decide _
      rw [Bool.eq_iff_iff]; simp
    simp only [W3] at hc3
    clear hconv hS
    by_cases hsg : b.take 9 = signB
    · rw [decide_eq_true hsg] at hb9
      have hm := HM.out
      rw [if_neg (by simp [h33, hsg])] at hm
      have HSG := Lib.hid hsg
      have HM2 := Lib.hid hm
      obtain ⟨m, hm4⟩ : ∃ m, n = m + 4 := ⟨n - 4, by omega⟩
      have hm29 : 29 ≤ m := by omega
      have hsub : (n : Int) - 4 = (m : Int) := by omega
      have HM4 := Lib.hid hm4
      clear HM hm hsg hm4
      go_enter_defers Tryd.func14, Tryd.ntmps14
      go_wp2_with fail
      have hs3 := HS.out
      have hd3 := HD.out
      have hk3 := HK.out
      simp only [W3] at hs3 hd3 hk3
      generalize ((w.alloc (.cells #[.int .u64 0, .int .i64 0, .int .u64 0, .int .i64 0] 32)).alloc (.cells #[.slice none 0 0] 33)).alloc (.cells #[.int .i64 0] 34) = W at *
      generalize hH : w.heap.size = H at *
      have HH := Lib.hid hH
      have HD3 := Lib.hid hd3
      have HK3 := Lib.hid hk3
      have HS3 := Lib.hid hs3
      clear hH hd3 hk3 hs3 hc3 hb9 HD HK HS
      have hm4 := HM4.out
      have hlast := BytesV.tail (HB.out.keptNo HK3.out) m (by omega)
      have hbody := BytesV.front (HB.out.keptNo HK3.out) m (by omega)
      have e4 : n - m = 4 := by omega
      rw [e4] at hlast
      have HLA := Lib.hid hlast
      have HBO := Lib.hid hbody
      have hll : (b.drop m).length = 4 := by rw [List.length_drop]; have := HN.out; omega
      have hlv := leV_lt (b.drop m)
      rw [hll] at hlv
      obtain ⟨lv, hlvd⟩ : ∃ lv, lv = leV (b.drop m) := ⟨_, rfl⟩
      have hnm : n - 4 = m := by omega
      rw [hnm] at HM2
      have hpw := fun w' (hk : Kept NoBlock W w') => pworth _ (b.drop m) (by rw [hll]; decide) w' (HLA.out.keptNo hk)
      rw [← hlvd] at hpw hlv HM2
      have HPW := Lib.hid hpw
      have hw32 : IntKind.u32.wrap (lv : Int) = (lv : Int) := wraps_u32 _ (by omega) (by omega)
      have hmc : m ≤ cap := by omega
      have HLV := Lib.hid hlvd
      clear hlast hbody hll hnm hpw hlvd hm4
      have hmn : m ≤ n := by omega
      clear hsub
      refine only_normal ?_
      refine wp_planC (fun W' => Kept NoBlock W W') 11 [.flt 0, .flt 1, .flt 2, .flt 3, .flt 4, .seg [5, 6, 7] 8, .seg [] 9] [10] (by kernel_rfl) (by kernel_rfl) no_panic (fun _ _ h => h.drewN _) (Kept.refl _ _) (fun n0 => ?_)
      iterate 3 (refine planC_flt rfl rfl ?_; apply Exists.intro; refine ⟨fun w' hw' => ?_, ?_⟩; (go_simp; first | rfl | exact ⟨rfl, rfl⟩); simp only [Act.put, List.setIfInBounds_toArray, List.set_cons_succ, List.set_cons_zero])
      refine planC_flt rfl rfl ?_
      refine ⟨.int .u64 lv, fun w' hw' => ?_, ?_⟩
      · go_simp
        exact ⟨rfl, HPW.out w' hw'⟩
      simp only [Act.put, List.setIfInBounds_toArray, List.set_cons_succ, List.set_cons_zero]
      refine planC_flt rfl rfl ?_
      apply Exists.intro; refine ⟨fun w' hw' => ?_, ?_⟩; (go_simp; first | rfl | exact ⟨rfl, rfl⟩)
      simp only [Act.put, List.setIfInBounds_toArray, List.set_cons_succ, List.set_cons_zero]
      simp only [wpPlanC, pick, List.filterMap_cons, List.filterMap_nil, List.getElem?_cons_succ, List.getElem?_cons_zero]
      repeat (quiet_step (fail))
      refine wpQuiet_nil ?_
      rintro _ ⟨n1, rfl⟩
      go_wp2_with fail
      have hkn := (Kept.refl NoBlock W).drewN (n0 + n1)
      have hs4 : (W.drewN (n0 + n1)).heap.size = W.heap.size := rfl
      generalize W.drewN (n0 + n1) = W1 at *
      have hka := hkn.trans (Kept.allocd W1 (.cells #[.slice ap m cap] 22))
      have hga := heap_alloc_new W1 (.cells #[.slice ap m cap] 22)
      have hbo2 := HBO.out.keptNo hka
      have hmat : MatV (W1.alloc (.cells #[.slice ap m cap] 22)) (.slice (some ⟨W1.heap.size, 0, none⟩) 1 1) [(.slice ap m cap, b.take m)] := by
        refine ⟨RowV.mk ⟨rfl, fun _ => ⟨_, rfl, fun j v hj => ?_⟩⟩ (Nat.le_refl _) (fun h => by cases h), fun p hp => ?_⟩
        · rw [addr_add, Nat.zero_add]
          exact cellB hga (by simpa using hj)
        · obtain rfl := List.mem_singleton.1 hp
          exact hbo2
      have hps := psum _ [(.slice ap m cap, b.take m)] _ (HV.out.kept (HK3.out.trans hka)) hmat (by simp) (fun p hp => by obtain rfl := List.mem_singleton.1 hp; simp only [List.length_take]; have := HN.out; omega)
      rw [sum_one, hs4] at hps
      have HPS := Lib.hid hps
      have HKA := Lib.hid hka
      have hsl := sumB_lt (b.take m)
      obtain ⟨s, hs⟩ : ∃ s, s = sumB (b.take m) := ⟨_, rfl⟩
      rw [← hs] at HPS hsl HM2
      clear hkn hs4 hka hga hbo2 hmat hps hs HPW hw32 e4 HLA
      refine Halt.mk ⟨.inr HKA.out, ?_⟩
      go_wp2_with fail
      generalize W1.alloc (.cells #[.slice ap m cap] 22) = W2 at *
      (with_reducible refine HPS.out.mono ?_)
      rintro e w6 ⟨rfl, rfl⟩
      clear HPS
      go_wp2_with fail
      refine Halt.mk ⟨.inr HKA.out, ?_⟩
      by_cases hls : lv = s
      · obtain rfl : lv = s := hls
        have hm := HM2.out
        rw [if_neg (by simp)] at hm
        have HM3 := Lib.hid hm
        clear HM2 hm
        repeat (quiet_step (fail))
        refine wpQuiet_nil ?_
        rintro _ ⟨n2, rfl⟩
        refine ⟨trivial, ?_⟩
        have hkw := HK3.out.trans (HKA.out.drewN n2)
        have HD4 := Lib.hid (HD3.out.kept (HKA.out.drewN n2))
        generalize w6.drewN n2 = w7 at *
        have hpart := (HB.out.keptNo hkw).part 9 m (by omega) (by omega)
        obtain ⟨bk, hbk1, hbk2⟩ := RowV.lt (show RowV w _ _ from HB.out) (by intro h; have h1 := congrArg List.length h; simp at h1; have := HN.out; rw [h1] at this; simp at this; omega)
        have hsz7 := hkw.size
        obtain ⟨R, hR⟩ : ∃ R, R = (b.take m).drop 9 := ⟨_, rfl⟩
        rw [← hR] at hpart HM3
        have hRl : R.length + 13 ≤ n := by rw [hR, List.length_drop, List.length_take]; have := HN.out; have := HM4.out; omega
        have hka := Kept.allocd w7 (.cells #[.slice (partAt ap 9 cap) (m - 9) (cap - 9)] 63)
        have HR8 : Hid (RdS (w7.alloc (.cells #[.slice (partAt ap 9 cap) (m - 9) (cap - 9)] 63)) w7.heap.size R) := Lib.hid ⟨_, heap_alloc_new w7 _, hpart.keptNo hka, fun bk' e => by rw [partAt_blk (n' := n) (c' := cap), hbk1] at e; cases e; omega⟩
        have HK8 := Lib.hid (hkw.trans hka)
        have HD8 := Lib.hid (HD4.out.kept hka)
        have HS8 := Lib.hid (show (w7.alloc (.cells #[.slice (partAt ap 9 cap) (m - 9) (cap - 9)] 63)).heap.size = w7.heap.size + 1 from World.size_alloc _ _)
        have hgH : H + 2 < w7.heap.size := by have := lt_of_heap HD4.out.b2; omega
        have hwg : w.heap.size ≤ w7.heap.size := hsz7
        have HREF := Lib.hid hR
        clear hkw HD4 hpart hbk1 hbk2 hsz7 hR hka hsl hlv HLV
        go_wp2_with fail
        generalize w7.alloc (.cells #[.slice (partAt ap 9 cap) (m - 9) (cap - 9)] 63) = W8 at *
        generalize w7.heap.size = g at *
        (with_reducible refine (peightR g R W8 HR8.out (by omega)).mono ?_)
        rintro e w9 ⟨hk, he⟩
        have HK9 := Lib.hid (Kept.trans' (S := NoBlock) HK8.out hk (fun i hi e => by omega))
        have HD9 := Lib.hid (HD8.out.keptS hk (fun i hi e => by omega))
        clear hk
        cases htk : numB 8 R with
        | none =>
          rw [htk] at he
          simp only at he
          have hm := HM3.out
          rw [show getAll R = none from by unfold getAll; rw [htk]] at hm
          simp only at hm
          subst he hm
          refine leaves_cons (f := 23) (args := #[.pointer (some ⟨H, 0, none⟩), .pointer (some ⟨H + 1, 0, none⟩), .pointer (some ⟨H + 1 + 1, 0, none⟩)]) (by simp) (by simp [go_sem]) ?_
          refine (dcatch H _ _ _ _ _ _ w9 (HD9.out)).mono ?_
          rintro e u' w'' ⟨rfl, rfl, hd9, hk9⟩
          obtain ⟨e0, e1, e2, e3⟩ := blk4 hd9.b0
          obtain ⟨e4, _⟩ := blk1' hd9.b1
          have e5 : w''.cell? ⟨H + 1 + 1, 0, none⟩ = _ := (blk1' hd9.b2).1
          simp [Leaves, settle, results, Tryd.results14, go_sem, e0, e1, e2, e3, e4, e5]
          exact ⟨(Kept.trans' HK9.out hk9 (fun i hi h => by have := HH.out; rcases h with rfl | rfl | rfl <;> omega)), rfl⟩
        | some p =>
          obtain ⟨id, r1⟩ := p
          rw [htk] at he
          simp only at he
          obtain ⟨v, rfl, rfl, hr⟩ := he
          have HR9 := Lib.hid hr
          have hr1 := numB_len htk
          have hid := numB_lt htk
          have HT1 := Lib.hid htk
          clear hr htk HR8
          go_wp2_with fail
          (with_reducible refine (peightR g r1 w9 HR9.out (by omega)).mono ?_)
          rintro e w10 ⟨hk, he⟩
          have HK10 := Lib.hid (Kept.trans' (S := NoBlock) HK9.out hk (fun i hi e => by omega))
          have HD10 := Lib.hid (HD9.out.keptS hk (fun i hi e => by omega))
          clear hk
          cases htk : numB 8 r1 with
          | none =>
            rw [htk] at he
            simp only at he
            have hm := HM3.out
            rw [show getAll R = none from by unfold getAll; rw [HT1.out]; simp only [htk]] at hm
            simp only at hm
            subst he hm
            refine leaves_cons (f := 23) (args := #[.pointer (some ⟨H, 0, none⟩), .pointer (some ⟨H + 1, 0, none⟩), .pointer (some ⟨H + 1 + 1, 0, none⟩)]) (by simp) (by simp [go_sem]) ?_
            refine (dcatch H _ _ _ _ _ _ w10 (HD10.out)).mono ?_
            rintro e u' w'' ⟨rfl, rfl, hd9, hk9⟩
            obtain ⟨e0, e1, e2, e3⟩ := blk4 hd9.b0
            obtain ⟨e4, _⟩ := blk1' hd9.b1
            have e5 : w''.cell? ⟨H + 1 + 1, 0, none⟩ = _ := (blk1' hd9.b2).1
            simp [Leaves, settle, results, Tryd.results14, go_sem, e0, e1, e2, e3, e4, e5]
            exact ⟨(Kept.trans' HK10.out hk9 (fun i hi h => by have := HH.out; rcases h with rfl | rfl | rfl <;> omega)), rfl⟩
          | some p =>
            obtain ⟨off, r2⟩ := p
            rw [htk] at he
            simp only at he
            obtain ⟨v, rfl, rfl, hr⟩ := he
            have hr2 := numB_len htk
            have hwo := wrap_i64 off (numB_lt htk)
            have HT2 := Lib.hid htk
            have hka := Kept.allocd w10 (.cells #[.int .u64 id, .int .i64 (wrapS off), .int .u64 0, .int .i64 0] 32)
            have HR11 := Lib.hid (hr.kept hka)
            have HG11 := Lib.hid (heap_alloc_new w10 (.cells #[.int .u64 id, .int .i64 (wrapS off), .int .u64 0, .int .i64 0] 32))
            have HK11 := Lib.hid (HK10.out.trans hka)
            have HD11 := Lib.hid (HD10.out.kept hka)
            have HS11 := Lib.hid (show (w10.alloc (.cells #[.int .u64 id, .int .i64 (wrapS off), .int .u64 0, .int .i64 0] 32)).heap.size = w10.heap.size + 1 from World.size_alloc _ _)
            have hgc := hr.lt
            clear hr htk HR9 hka
            go_wp2_with fail
            generalize w10.alloc (.cells #[.int .u64 id, .int .i64 (wrapS off), .int .u64 0, .int .i64 0] 32) = W11 at *
            generalize w10.heap.size = c at *
            clear hwo
            (with_reducible refine (pfourR g r2 W11 HR11.out (by omega)).mono ?_)
            rintro e w12 ⟨hk, he⟩
            have HK12 := Lib.hid (Kept.trans' (S := NoBlock) HK11.out hk (fun i hi e => by omega))
            have HD12 := Lib.hid (HD11.out.keptS hk (fun i hi e => by omega))
            have HG12 := Lib.hid (KG.heap hk HG11.out (by omega))
            clear hk
            cases htk : numB 4 r2 with
            | none =>
              rw [htk] at he
              simp only at he
              have hm := HM3.out
              rw [show getAll R = none from by unfold getAll; rw [HT1.out]; simp only [HT2.out, htk]] at hm
              simp only at hm
              subst he hm
              refine leaves_cons (f := 23) (args := #[.pointer (some ⟨H, 0, none⟩), .pointer (some ⟨H + 1, 0, none⟩), .pointer (some ⟨H + 1 + 1, 0, none⟩)]) (by simp) (by simp [go_sem]) ?_
              refine (dcatch H _ _ _ _ _ _ w12 (HD12.out)).mono ?_
              rintro e u' w'' ⟨rfl, rfl, hd9, hk9⟩
              obtain ⟨e0, e1, e2, e3⟩ := blk4 hd9.b0
              obtain ⟨e4, _⟩ := blk1' hd9.b1
              have e5 : w''.cell? ⟨H + 1 + 1, 0, none⟩ = _ := (blk1' hd9.b2).1
              simp [Leaves, settle, results, Tryd.results14, go_sem, e0, e1, e2, e3, e4, e5]
              exact ⟨(Kept.trans' HK12.out hk9 (fun i hi h => by have := HH.out; rcases h with rfl | rfl | rfl <;> omega)), rfl⟩
            | some p =>
              obtain ⟨n4, r3⟩ := p
              rw [htk] at he
              simp only at he
              obtain ⟨v, rfl, rfl, hr⟩ := he
              have hr3 := numB_len htk
              have hn4 := numB_bound htk
              have HGA := Lib.hid (show getAll R = match getEs n4 r3 with | none => none | some (l, q) => some ((id, wrapS off, l), q) from by unfold getAll; rw [HT1.out]; simp only [HT2.out, htk]; cases getEs n4 r3 <;> rfl)
              have HEW : Hid (EsW w g c H id (wrapS off) [] r3 (.slice none 0 0) w12) := Lib.hid ⟨hr, HK12.out, HD12.out, HG12.out, OwnK.nil _ _, fun m hm => by cases hm⟩
              clear hr htk HR11 HG11 HK11 HD11 HS11 HK12 HD12 HG12 HT1 HT2
              go_wp2_with fail
              go_loopw [8, 9] (fun v8 v9 wr => ∃ m' : Nat, v9 = .int .i64 m' ∧ m' ≤ 4294967296 ∧ ∃ ms r', EsW w g c H id (wrapS off) ms r' v8 wr ∧ Rest getEs n4 r3 (ms.map (·.e)) m' r') (fun _ v9 _ => (intOf v9).toNat)
              case atStart => exact ⟨n4, rfl, hn4, [], r3, HEW.out, Rest.start _ _ _⟩
              case round =>
                obtain ⟨m', rfl, hm'4, ms, r', hew, hrest⟩ := hrel
                have HW := Lib.hid hew
                have HRE := Lib.hid hrest
                clear hew hrest HEW
                have hms : ms.length ≤ 67108864 := by have := HRE.out.2; rw [List.length_map] at this; omega
                have hrl : r'.length ≤ 67108864 := by have := HRE.out.2; omega
                by_cases hm0 : 0 < m'
                · obtain ⟨q, hq⟩ : ∃ q, m' = q + 1 := ⟨m' - 1, by omega⟩
                  have HQ := Lib.hid hq
                  clear hq
                  obtain ⟨apX, capX, rfl⟩ := OwnK.form (k := 7) (f := eCells) (fun _ => rfl) (by decide) HW.out.own
                  have hcw := lt_of_heap HW.out.hist
                  go_wp2_with fail
                  (with_reducible refine (pentryR g r' wr HW.out.rd (by omega)).mono ?_)
                  rintro e w13 ⟨hk, he⟩
                  have HKG := Lib.hid hk
                  have HK13 := Lib.hid (Kept.trans' (S := NoBlock) HW.out.kw hk (fun i hi e => by omega))
                  have HD13 := Lib.hid (HW.out.dx.keptS hk (fun i hi e => by omega))
                  clear hk
                  cases htk : getE r' with
                  | none =>
                    rw [htk] at he
                    simp only at he
                    have hno := Rest.stop HRE.out (by rw [HQ.out, getEs, htk])
                    have hm := HM3.out
                    rw [HGA.out, hno] at hm
                    simp only at hm
                    subst he hm
                    refine leaves_cons (f := 23) (args := #[.pointer (some ⟨H, 0, none⟩), .pointer (some ⟨H + 1, 0, none⟩), .pointer (some ⟨H + 1 + 1, 0, none⟩)]) (by simp) (by simp [go_sem]) ?_
                    refine (dcatch H _ _ _ _ _ _ w13 (HD13.out)).mono ?_
                    rintro e u' w'' ⟨rfl, rfl, hd9, hk9⟩
                    obtain ⟨e0, e1, e2, e3⟩ := blk4 hd9.b0
                    obtain ⟨e4, _⟩ := blk1' hd9.b1
                    have e5 : w''.cell? ⟨H + 1 + 1, 0, none⟩ = _ := (blk1' hd9.b2).1
                    simp [Leaves, settle, results, Tryd.results14, go_sem, e0, e1, e2, e3, e4, e5]
                    exact ⟨(Kept.trans' HK13.out hk9 (fun i hi h => by have := HH.out; rcases h with rfl | rfl | rfl <;> omega)), rfl⟩
                  | some p =>
                    obtain ⟨e, q'⟩ := p
                    rw [htk] at he
                    simp only at he
                    obtain ⟨v, rfl, ⟨me, hme, rfl, hsub⟩, hr⟩ := he
                    have HRE3 := Lib.hid (Rest.next (x := e) (by have := HRE.out; rw [HQ.out] at this; exact this) (by rw [getEs, htk]; simp only; cases getEs q q' <;> rfl) (by have := (getE_len htk).1; have : 1 ≤ (entB e).length := (by unfold entB; rw [List.length_cons]; omega); omega))
                    have HW13 := Lib.hid (HW.out.read HKG.out hr hgc hgH hwg)
                    obtain ⟨⟨key, ⟨kk, s, L, Z, H'⟩, till⟩, vL, vZ, vH⟩ := me
                    obtain ⟨apL, capL, eL, _⟩ := hsub.subs.1.parts
                    obtain ⟨apZ, capZ, eZ, _⟩ := hsub.subs.2.1.parts
                    obtain ⟨apH, capH, eH, _⟩ := hsub.subs.2.2.parts
                    simp only [List.length_map] at eL eZ eH
                    subst eL eZ eH
                    have HSUB := Lib.hid hsub
                    have HA := Lib.hid (Kept.allocd w13 (.cells #[.string ⟨key.toArray⟩, .int .i64 kk, .string ⟨s.toArray⟩, .slice apL L.length capL, .slice apZ Z.length capZ, .slice apH H'.length capH, .int .i64 till] 56))
                    have HGA13 := Lib.hid (heap_alloc_new w13 (.cells #[.string ⟨key.toArray⟩, .int .i64 kk, .string ⟨s.toArray⟩, .slice apL L.length capL, .slice apZ Z.length capZ, .slice apH H'.length capH, .int .i64 till] 56))
                    have HWA := Lib.hid (HW13.out.kept HA.out)
                    have HME := Lib.hid hme
                    clear hsub hr htk hme
                    unfold entA strV
                    go_wp2_with (at_builtin; refine wpList_appK rfl _ _ 33 (by rfl) Tryd.underlying33 _ 120 entInfo rfl (by decide) (by decide) (fun _ => rfl) (c + 1) (.slice apX ms.length capX) ms (by rfl) HWA.out.own w13.heap.size ⟨⟨key, ⟨kk, s, L, Z, H'⟩, till⟩, .slice apL L.length capL, .slice apZ Z.length capZ, .slice apH H'.length capH⟩ #[.string ⟨key.toArray⟩, .int .i64 kk, .string ⟨s.toArray⟩, .slice apL L.length capL, .slice apZ Z.length capZ, .slice apH H'.length capH, .int .i64 till] (0, 0) (by rfl) HGA13.out rfl (by intro u hu; simp [eCells, strV] at hu; rcases hu with rfl | rfl | rfl | rfl | rfl | rfl | rfl <;> rfl) (by omega) (by have := lt_of_heap HWA.out.hist; omega) ?_; intro v' w' hown hgr; refine Hid.out ?_)
                    have hss : ∀ m ∈ ms ++ [⟨⟨key, ⟨kk, s, L, Z, H'⟩, till⟩, .slice apL L.length capL, .slice apZ Z.length capZ, .slice apH H'.length capH⟩], SubT w' m := fun m hm => by
                      rcases List.mem_append.1 hm with hm | hm
                      · exact (HWA.out.subs m hm).grown HWA.out.own hgr
                      · obtain rfl := List.mem_singleton.1 hm
                        exact (HSUB.out.kept HA.out).grown HWA.out.own hgr
                    have HW14 := Lib.hid (HWA.out.grow hgr hown hgc hgH hwg hss)
                    obtain ⟨apY, capY, rfl⟩ := OwnK.form (k := 7) (f := eCells) (fun _ => rfl) (by decide) hown
                    rw [List.length_append, List.length_singleton] at HW14 ⊢
                    clear hown hgr hss
                    refine Lib.hid ?_
                    go_wp2_with fail
                    obtain rfl := HQ.out
                    go_roundw
                    case rel => exact ⟨q, by go_num, by omega, _, _, HW14.out, by have := HRE3.out; rw [← HME.out] at this; rw [List.map_append]; exact this⟩
                    case measure => simp [intOf]
                · obtain rfl : m' = 0 := by omega
                  have hfin := Rest.fin HRE.out rfl
                  obtain ⟨apX, capX, rfl⟩ := OwnK.form (k := 7) (f := eCells) (fun _ => rfl) (by decide) HW.out.own
                  have hm := HM3.out
                  rw [HGA.out, hfin] at hm
                  simp only at hm
                  obtain ⟨hfl, _, hsz⟩ := getEs_len n4 r3 hfin
                  have hpe := pEncode wr id 0 (wrapS off) 0 (.slice apX ms.length capX) ms (HV.out.kept HW.out.kw) ⟨OwnK.row (k := 7) (f := eCells) (fun _ => rfl) (by decide) HW.out.own, fun m hm => (HW.out.subs m hm).subs⟩ hid (by omega) (fun m hm => (hsz m.e (List.mem_map_of_mem hm)).sized (by omega))
                    (fun _ => by simp only [writtenB, frontB, List.length_append, leB_len, signB, List.length_cons, List.length_nil]; omega)
                  rw [show (((0 : Nat) : Int)) = 0 from rfl] at hpe
                  have HPE := Lib.hid hpe
                  have HM4' := Lib.hid hm
                  obtain ⟨c0, c1, c2, c3⟩ := blk4 HW.out.hist
                  clear hm hpe hfin hfl hsz
                  go_wp2_with fail
                  (with_reducible refine HPE.out.mono ?_)
                  rintro e w13 he
                  have hm := HM4'.out
                  clear c0 c1 c2 c3 HPE
                  cases hE : encB id (wrapS off) (ms.map (·.e)) with
                  | error cc =>
                    have hcc := encB_err hE
                    rw [hE] at he hm
                    simp only at hm
                    subst hm
                    obtain ⟨rfl, hk⟩ := he
                    have hcb : ((cc : Int) == 0) = false := by rw [beq_eq_false_iff_ne]; exact hcc
                    have HD14 := Lib.hid (HW.out.dx.kept hk)
                    have HK14 := Lib.hid (HW.out.kw.trans hk)
                    clear hk hE HM4' HM3 HGA
                    obtain ⟨c0, c1, c2, c3⟩ := blk4 HD14.out.b0
                    have z0 := fun i => frozenB HD14.out.b0 i
                    obtain ⟨d1, z1⟩ := blk1' HD14.out.b1
                    obtain ⟨d2, z2⟩ := blk1' HD14.out.b2
                    have HST := Lib.hid (HD14.out.set (.int .u64 0) (.int .i64 0) (.int .u64 0) (.int .i64 0) (.slice none 0 0) (.int .i64 200))
                    go_wp2_with fail
                    refine leaves_cons (f := 23) (args := #[.pointer (some ⟨H, 0, none⟩), .pointer (some ⟨H + 1, 0, none⟩), .pointer (some ⟨H + 1 + 1, 0, none⟩)]) (by simp) (by simp [go_sem]) ?_
                    refine (didle _ _ _ _).mono ?_
                    rintro e u' w'' ⟨rfl, rfl, rfl⟩
                    have hst := HST.out
                    generalize ((((((((((((w13).setCell ⟨H, 0, none⟩ (.int .u64 0))).setCell ⟨H, 1, none⟩ (.int .i64 0))).setCell ⟨H, 2, none⟩ (.int .u64 0))).setCell ⟨H, 3, none⟩ (.int .i64 0))).setCell ⟨H + 1, 0, none⟩ (.slice none 0 0))).setCell ⟨H + 1 + 1, 0, none⟩ (.int .i64 200)) = W9 at hst ⊢
                    obtain ⟨hd9, hk9⟩ := hst
                    obtain ⟨e0, e1, e2, e3⟩ := blk4 hd9.b0
                    obtain ⟨e4, _⟩ := blk1' hd9.b1
                    have e5 : W9.cell? ⟨H + 1 + 1, 0, none⟩ = _ := (blk1' hd9.b2).1
                    simp [Leaves, settle, results, Tryd.results14, go_sem, e0, e1, e2, e3, e4, e5]
                    exact ⟨(Kept.trans' HK14.out hk9 (fun i hi h => by have := HH.out; rcases h with rfl | rfl | rfl <;> omega)), rfl⟩
                  | ok x =>
                    rw [hE] at he hm
                    simp only at hm
                    obtain ⟨v, rfl, hown, hk⟩ := he
                    have HD14 := Lib.hid (HW.out.dx.kept hk)
                    have HK14 := Lib.hid (HW.out.kw.trans hk)
                    have HO14 := Lib.hid (HW.out.own.kept hk)
                    have HSS := Lib.hid (fun m hm => (HW.out.subs m hm).kept hk)
                    obtain ⟨apY, capY, rfl, _⟩ := OwnM.form hown.t
                    have hcv1 := conv_of hown.bytes
                    have hcv2 := conv_of (HB.out.keptNo HK14.out)
                    obtain ⟨Sx, hSx⟩ : ∃ S : ByteArray, S = ⟨x.toArray⟩ := ⟨_, rfl⟩
                    obtain ⟨Sb, hSb⟩ : ∃ S : ByteArray, S = ⟨b.toArray⟩ := ⟨_, rfl⟩
                    have hsb := str_beq hSx hSb
                    rw [← hSx] at hcv1
                    rw [← hSb] at hcv2
                    have hgc7 := lt_of_heap HD14.out.b2
                    have HG14 := Lib.hid (hk.heap HW.out.hist (fun h => h))
                    clear hSx hSb hown hk hE HM4' HM3 HGA
                    by_cases hxb : x = b
                    · rw [if_pos hxb] at hm
                      rw [decide_eq_true hxb] at hsb
                      subst hm
                      clear hxb
                      obtain ⟨c0, c1, c2, c3⟩ := blk4 HD14.out.b0
                      have z0 := fun i => frozenB HD14.out.b0 i
                      obtain ⟨d1, z1⟩ := blk1' HD14.out.b1
                      obtain ⟨d2, z2⟩ := blk1' HD14.out.b2
                      obtain ⟨y0, y1, y2, y3⟩ := blk4 HG14.out
                      have HST := Lib.hid (HD14.out.set (.int .u64 id) (.int .i64 (wrapS off)) (.int .u64 0) (.int .i64 0) (.slice apX ms.length capX) (.int .i64 0))
                      go_wp2_with fail
                      refine leaves_cons (f := 23) (args := #[.pointer (some ⟨H, 0, none⟩), .pointer (some ⟨H + 1, 0, none⟩), .pointer (some ⟨H + 1 + 1, 0, none⟩)]) (by simp) (by simp [go_sem]) ?_
                      refine (didle _ _ _ _).mono ?_
                      rintro e u' w'' ⟨rfl, rfl, rfl⟩
                      have hst := HST.out
                      generalize ((((((((((((w13).setCell ⟨H, 0, none⟩ (.int .u64 id))).setCell ⟨H, 1, none⟩ (.int .i64 (wrapS off)))).setCell ⟨H, 2, none⟩ (.int .u64 0))).setCell ⟨H, 3, none⟩ (.int .i64 0))).setCell ⟨H + 1, 0, none⟩ (.slice apX ms.length capX))).setCell ⟨H + 1 + 1, 0, none⟩ (.int .i64 0)) = W9 at hst ⊢
                      obtain ⟨hd9, hk9⟩ := hst
                      obtain ⟨e0, e1, e2, e3⟩ := blk4 hd9.b0
                      obtain ⟨e4, _⟩ := blk1' hd9.b1
                      have e5 : W9.cell? ⟨H + 1 + 1, 0, none⟩ = _ := (blk1' hd9.b2).1
                      simp [Leaves, settle, results, Tryd.results14, go_sem, e0, e1, e2, e3, e4, e5]
                      refine ⟨(Kept.trans' HK14.out hk9 (fun i hi h => by have := HH.out; rcases h with rfl | rfl | rfl <;> omega)), ⟨_, ms, rfl, rfl, OwnK.row (k := 7) (f := eCells) (fun _ => rfl) (by decide) (HO14.out.keptS hk9 (fun i hi _ e => by rcases e with rfl | rfl | rfl <;> omega)), fun m hm => ((HSS.out m hm).keptD HD14.out hk9).subs⟩⟩
                    · rw [if_neg hxb] at hm
                      rw [decide_eq_false hxb] at hsb
                      subst hm
                      clear hxb
                      obtain ⟨c0, c1, c2, c3⟩ := blk4 HD14.out.b0
                      have z0 := fun i => frozenB HD14.out.b0 i
                      obtain ⟨d1, z1⟩ := blk1' HD14.out.b1
                      obtain ⟨d2, z2⟩ := blk1' HD14.out.b2
                      have HST := Lib.hid (HD14.out.set (.int .u64 0) (.int .i64 0) (.int .u64 0) (.int .i64 0) (.slice none 0 0) (.int .i64 200))
                      go_wp2_with fail
                      refine leaves_cons (f := 23) (args := #[.pointer (some ⟨H, 0, none⟩), .pointer (some ⟨H + 1, 0, none⟩), .pointer (some ⟨H + 1 + 1, 0, none⟩)]) (by simp) (by simp [go_sem]) ?_
                      refine (didle _ _ _ _).mono ?_
                      rintro e u' w'' ⟨rfl, rfl, rfl⟩
                      have hst := HST.out
                      generalize ((((((((((((w13).setCell ⟨H, 0, none⟩ (.int .u64 0))).setCell ⟨H, 1, none⟩ (.int .i64 0))).setCell ⟨H, 2, none⟩ (.int .u64 0))).setCell ⟨H, 3, none⟩ (.int .i64 0))).setCell ⟨H + 1, 0, none⟩ (.slice none 0 0))).setCell ⟨H + 1 + 1, 0, none⟩ (.int .i64 200)) = W9 at hst ⊢
                      obtain ⟨hd9, hk9⟩ := hst
                      obtain ⟨e0, e1, e2, e3⟩ := blk4 hd9.b0
                      obtain ⟨e4, _⟩ := blk1' hd9.b1
                      have e5 : W9.cell? ⟨H + 1 + 1, 0, none⟩ = _ := (blk1' hd9.b2).1
                      simp [Leaves, settle, results, Tryd.results14, go_sem, e0, e1, e2, e3, e4, e5]
                      exact ⟨(Kept.trans' HK14.out hk9 (fun i hi h => by have := HH.out; rcases h with rfl | rfl | rfl <;> omega)), rfl⟩
      · have hm := HM2.out
        rw [if_pos hls] at hm
        subst hm
        have hlsI : ¬ ((lv : Int) = (s : Int)) := by omega
        have hlsB : ((lv : Int) == (s : Int)) = false := by rw [beq_eq_false_iff_ne]; omega
        clear HM2 hls
        repeat (quiet_step (fail))
        refine wpQuiet_nil ?_
        rintro _ ⟨n2, rfl⟩
        refine ⟨trivial, ?_⟩
        have HD4 := Lib.hid (HD3.out.kept (HKA.out.drewN n2))
        have HK4 := Lib.hid (HK3.out.trans (HKA.out.drewN n2))
        generalize w6.drewN n2 = w7 at *
        obtain ⟨c0, c1, c2, c3⟩ := blk4 HD4.out.b0
        have z0 := fun i => frozenB HD4.out.b0 i
        obtain ⟨d1, z1⟩ := blk1' HD4.out.b1
        obtain ⟨d2, z2⟩ := blk1' HD4.out.b2
        have HST := Lib.hid (HD4.out.set (.int .u64 0) (.int .i64 0) (.int .u64 0) (.int .i64 0) (.slice none 0 0) (.int .i64 201))
        go_wp2_with fail
        refine leaves_cons (f := 23) (args := #[.pointer (some ⟨H, 0, none⟩), .pointer (some ⟨H + 1, 0, none⟩), .pointer (some ⟨H + 1 + 1, 0, none⟩)]) (by simp) (by simp [go_sem]) ?_
        refine (didle _ _ _ _).mono ?_
        rintro e u' w'' ⟨rfl, rfl, rfl⟩
        have hst := HST.out
        generalize ((((((((((((w7).setCell ⟨H, 0, none⟩ (.int .u64 0))).setCell ⟨H, 1, none⟩ (.int .i64 0))).setCell ⟨H, 2, none⟩ (.int .u64 0))).setCell ⟨H, 3, none⟩ (.int .i64 0))).setCell ⟨H + 1, 0, none⟩ (.slice none 0 0))).setCell ⟨H + 1 + 1, 0, none⟩ (.int .i64 201)) = W9 at hst ⊢
        obtain ⟨hd9, hk9⟩ := hst
        obtain ⟨e0, e1, e2, e3⟩ := blk4 hd9.b0
        obtain ⟨e4, _⟩ := blk1' hd9.b1
        have e5 : W9.cell? ⟨H + 1 + 1, 0, none⟩ = _ := (blk1' hd9.b2).1
        simp [Leaves, settle, results, Tryd.results14, go_sem, e0, e1, e2, e3, e4, e5]
        exact ⟨(Kept.trans' HK4.out hk9 (fun i hi h => by have := HH.out; rcases h with rfl | rfl | rfl <;> omega)), rfl⟩
    · have hm : M = .error 200 := by have := HM.out; rw [if_pos (.inr hsg)] at this; exact this.symm
      rw [decide_eq_false hsg] at hb9
      subst hm
      clear HM hsg
      go_enter_defers Tryd.func14, Tryd.ntmps14
      go_wp2_with fail
      refine leaves_cons (f := 23) (args := #[.pointer (some ⟨w.heap.size, 0, none⟩), .pointer (some ⟨w.heap.size + 1, 0, none⟩), .pointer (some ⟨w.heap.size + 1 + 1, 0, none⟩)]) (by simp) (by simp [go_sem]) ?_
      refine (didle _ _ _ _).mono ?_
      rintro e u' w'' ⟨rfl, rfl, rfl⟩
      simp [Leaves, settle, results, Tryd.results14, go_sem]
      exact ⟨(((Kept.refl NoBlock w).alloc _).alloc _).alloc _, rfl⟩
end Go.Proofs.YtfhlhpknobkplaaDoor
