/- Merged: 'append' to a row that is owned, and where the new row lies: in the old one's block, or in a new one; The reader, by the program: rows of replies; The reader, by the program: rows of replies, replies; The reader, by the program: replies. -/
import Derived.Test.YtpekeilpdbdnnaaDoorZYd6
set_option linter.all false
namespace Go.Proofs.YtpekeilpdbdnnaaDoor
open Go.RowKit

theorem run_append_place {P : Program} (w : World) (base : Nat) (t ty e : TypeId) (i : TypeInfo) (z : Value) (size bytes : Nat) (ht : P.underlying t = some (.slice e)) (hi : P.info? e = some i) (hz : i.zero = some z)
    (hsize : i.size = size) (hby : i.bytes = bytes) (hzs : z.cells.size = size) (hsz : 0 < size)
    (v : Value) (n : Nat) (xs : List Value) (hown : w.ownsRow base e size v n xs)
    (a : Addr) (m c : Nat) (news : List Value) (hl : news.length = m * size) (hnews : ∀ j u, news[j]? = some u → w.cell? (a.add j) = some u) (h1 : ∀ u ∈ news, u.oneCell' = true)
    (h63 : n + m ≤ maxLen) (hbytes : (n + m) * bytes ≤ 140737488355328) (hbase : base ≤ w.heap.size) :
    ∃ v' w', (Builtin.append_ #[t, t] ty #[v, .slice (some a) m c]).run P w = .ok v' w' ∧ w'.ownsRow base e size v' (n + m) (xs ++ news) ∧ w.grownBy w' v.ownBlock ∧ ∀ k, v'.ownBlock = some k → v.ownBlock = some k ∨ w.heap.size ≤ k := by
  have hsmall : n + m ≤ 9223372036854775807 := by simp only [maxLen] at h63; omega
  rcases hown.2 with ⟨rfl, rfl⟩ | ⟨g, cap, cur, rfl, hbg, hg, hnc, hcm, hcs, htake⟩
  · obtain ⟨v', w', r1, r2, r3, _⟩ := run_append_own (P := P) w w.heap.size t ty e i z size bytes ht hi hz hsize hby hzs hsz (.slice none 0 0) 0 xs ⟨hown.1, .inl ⟨rfl, rfl⟩⟩ a m c news hl hnews h1 h63 hbytes (Nat.le_refl _)
    refine ⟨v', w', r1, ⟨r2.1, ?_⟩, r3, fun k hk => .inr (r2.lt k hk).1⟩
    rcases r2.2 with h | ⟨g, cap, cur, e1, e2, rest⟩
    · exact .inl h
    · exact .inr ⟨g, cap, cur, e1, Nat.le_trans hbase e2, rest⟩
  · obtain ⟨v', w', r1, r2, r3, _⟩ := run_append_own (P := P) w base t ty e i z size bytes ht hi hz hsize hby hzs hsz _ n xs hown a m c news hl hnews h1 h63 hbytes hbase
    refine ⟨v', w', r1, r2, r3, ?_⟩
    by_cases hroom : n + m ≤ cap
    · have hf := run_firstCells_some (P := P) w i.size m a m c news (by rw [hl, hsize]) hnews
      have hst := run_storeCells_atM P g (n * i.size) e (0, 0) news 0 cur w hg (.inl (Nat.zero_le _)) (by
        rw [hcs, hsize, hl]
        have := Nat.mul_le_mul_right size hroom
        rw [Nat.add_mul] at this
        omega) h1
      simp only [Nat.add_zero] at hst
      have hr : ∃ w2, (Builtin.append_ #[t, t] ty #[.slice (some ⟨g, 0, none⟩) n cap, .slice (some a) m c]).run P w = .ok (.slice (some ⟨g, 0, none⟩) (n + m) cap) w2 := by
        refine ⟨w.setRow g (cur.toList.take (n * i.size) ++ news ++ cur.toList.drop (n * i.size + news.length)).toArray, ?_⟩
        simp [Builtin.append_, run_underlying ht, sizeOf, typeInfo, hi, Builtin.lenOf, hroom, hf, Addr.add_lit, hst]
      obtain ⟨w2, hr⟩ := hr
      rw [hr] at r1
      cases r1
      intro k hk
      exact .inl hk
    · have holds : ∀ j u, xs[j]? = some u → w.cell? ((⟨g, 0, none⟩ : Addr).add j) = some u := hown.cells rfl
      have hr := run_append_grow (P := P) w t ty e i z ht hi hz ⟨g, 0, none⟩ n cap xs (by rw [hsize]; exact hown.1) holds a m c news (by rw [hsize]; exact hl) hnews (by omega) (by omega) (growslice_fits (by omega) (by rw [hby]; exact hbytes))
      rw [hr] at r1
      cases r1
      intro k hk
      simp [Value.ownBlock] at hk
      exact .inr (by omega)

section
variable {α : Type} {k : Nat} {f : α → List Value} {T : TypeId}
/-- 'append(l, x)', and where the row lies then. -/
theorem wpList_appP {w : World} {ops : Array Oper} {rest : List Oper} {o : Oper} {a : Act} {Q : Exit → Act → World → Prop} (hgd : o.guard = none) (s x : Operand) (t : TypeId)
    (ho : o.op = .call { callee := .builtin .append, args := #[s, x], argTypes := #[t, t] }) (hu : Tryd.prog.underlying t = some (.slice T)) (z : Value) (bytes : Nat) (hi : (Tryd.prog.info? T).map (fun i => (i.zero, i.size, i.bytes)) = some (some z, k, bytes)) (hz : z.cells.size = k) (hk : 0 < k) (hby : bytes ≤ 1000)
    (hf : ∀ x, (f x).length = k) (base : Nat) (v : Value) (xs : List α) (hs : a.eval s = v) (hown : OwnK k T f w base v xs) (b : Nat) (y : α) (cs : Array Value) (fz : Nat × Nat) (hx : a.eval x = .slice (some ⟨b, 0, none⟩) 1 1)
    (hcell : w.heap[b]? = some (.cells cs T fz)) (hcs : cs.toList = f y) (h1 : ∀ u ∈ f y, u.oneCell' = true) (hlen : xs.length ≤ 100000000) (hbase : base ≤ w.heap.size)
    (h : ∀ v' w', OwnK k T f w' base v' (xs ++ [y]) → w.grownBy w' v.ownBlock → (∀ j, v'.ownBlock = some j → v.ownBlock = some j ∨ w.heap.size ≤ j) → wpList Tryd.prog ops Q rest (a.put o.dst v') w') : wpList Tryd.prog ops Q (o :: rest) a w := by
  obtain ⟨i0, hi, hz0, hz1, hz2⟩ := info_parts hi
  obtain ⟨v', w', hr, h2, h3, h4⟩ := run_append_place (P := Tryd.prog) w base t o.type T i0 z k bytes hu hi hz0 hz1 hz2 hz hk v xs.length (xs.flatMap f) hown ⟨b, 0, none⟩ 1 1 (f y) (by rw [hf, Nat.one_mul])
    (fun j u hj => by
      rw [addr_add, Nat.zero_add]
      refine cellB hcell ?_
      rw [← hcs] at hj
      simpa using hj)
    h1 (by unfold maxLen; omega) (by
      have := Nat.mul_le_mul (show xs.length + 1 ≤ 100000001 by omega) hby
      omega) hbase
  refine wpList_plain hgd fun K hK => ?_
  unfold Oper.wp execOp
  simp only [ho, resolve, invoke, builtin, Sem.run_bind, Sem.run_pure, Result.andThen_ok, List.map_toArray, List.map_cons, List.map_nil, hs, hx, hr]
  refine hK _ _ (h v' w' ?_ h3 h4)
  unfold OwnK
  rw [List.length_append, List.flatMap_append]
  simpa using h2
end
end Go.Proofs.YtpekeilpdbdnnaaDoor
namespace Go.Proofs.YtpekeilpdbdnnaaDoor
open Go.RowKit
attribute [local go_sem] fold_part fold_some fold_some' partAt_zero

/-- A reply by the program, with so many arrays still to come. -/
def PRp (k : Nat) : Prop := ∀ (j g : Nat) (B l : Bs) (w : World), j + k = 8 → RdS w g B l → B.length ≤ 1000000000 →
  Calls Tryd.prog 23 #[.pointer (some ⟨g, 0, none⟩), .int .i64 j] w (EndS g B (repE k l) (retM w.heap.size) w)

def mapI (D : List Rep) : Except Flt (List Rep × Bs) → Except Flt (List Rep × Bs)
  | .ok (s, t) => .ok (D ++ s, t)
  | .error e => .error e
theorem mapI_nil (x : Except Flt (List Rep × Bs)) : mapI [] x = x := by
  cases x with
  | error e => rfl
  | ok v => obtain ⟨s, t⟩ := v; rfl
theorem items_next {f : Bs → Except Flt (Rep × Bs)} {m : Nat} {r q : Bs} {x : Rep} (D : List Rep) (h : f r = .ok (x, q)) : mapI D (itemsB f (m + 1) r) = mapI (D ++ [x]) (itemsB f m q) := by
  rw [itemsB, h]
  simp only
  cases itemsB f m q with
  | error e => rfl
  | ok v => obtain ⟨s, t⟩ := v; simp [mapI]
theorem items_no {f : Bs → Except Flt (Rep × Bs)} {m : Nat} {r : Bs} {e : Flt} (D : List Rep) (h : f r = .error e) : mapI D (itemsB f (m + 1) r) = .error e := by
  rw [itemsB, h]
  rfl
theorem arr0_eq (l : Bs) : arr0 l = match unitB (mustsB [45, 49, 13, 10]) l with | .error e => .error e | .ok (_, r) => .ok (.mk 7 [] 0 [], r) := by
  unfold arr0 andB unitB endB
  simp only [mustsB]
  cases mustB 45 l with
  | error e => rfl
  | ok r1 =>
    simp only
    cases mustB 49 r1 with
    | error e => rfl
    | ok r2 =>
      simp only
      cases mustB 13 r2 with
      | error e => rfl
      | ok r3 =>
        simp only
        cases mustB 10 r3 <;> rfl

/-- The world at the head of a row's loop. -/
structure ArrW (w : World) (g b c : Nat) (B : Bs) (ms : List RepM) (r : Bs) (vX : Value) (wr : World) : Prop where
  rd : RdS wr g B r
  kg : KG g w wr
  z4 : Z4 b wr
  box : wr.heap[c]? = some (.cells #[.int .i64 6, .string ⟨#[]⟩, .int .i64 0, vX] 26 (0, 0))
  own : OwnK 4 26 rCells wr (c + 1) vX ms
  subs : ∀ m ∈ ms, GoodM wr (fun j => c + 1 ≤ j ∧ ¬ (vX.ownBlock = some j)) m
  fits : ∀ m ∈ ms, FitM m
theorem ArrW.kept {w : World} {g b c : Nat} {B : Bs} {ms : List RepM} {r : Bs} {vX : Value} {wr w' : World} (h : ArrW w g b c B ms r vX wr) (hk : Kept NoBlock wr w') : ArrW w g b c B ms r vX w' :=
  ⟨h.rd.kept hk, h.kg.trans (hk.kg g), h.z4.keptS hk (fun h => h), hk.heap h.box (fun h => h), h.own.kept hk, fun m hm => (h.subs m hm).keptN hk, h.fits⟩
theorem ArrW.read {w : World} {g b c : Nat} {B : Bs} {ms : List RepM} {r q : Bs} {vX : Value} {wr w' : World} (h : ArrW w g b c B ms r vX wr) (hk : KG g wr w') (hr : RdS w' g B q) (hgb : g < b) (hbc : b < c) : ArrW w g b c B ms q vX w' :=
  ⟨hr, h.kg.trans hk, h.z4.keptS hk (by omega), hk.heap h.box (by omega), h.own.keptS hk (fun i hi _ e => by omega), fun m hm => (h.subs m hm).kept hk (fun j _ hP e => by omega) (fun _ _ h => h), h.fits⟩
/-- .. behind the row's growing and the box's store. -/
theorem ArrW.grow {w : World} {g b c : Nat} {B : Bs} {ms : List RepM} {m : RepM} {r : Bs} {vX vX' : Value} {wr w' : World} (h : ArrW w g b c B ms r vX wr) (hgb : g < b) (hbc : b < c) (hb : w.heap.size = b)
    (hg : wr.grownBy w' vX.ownBlock) (hown : OwnK 4 26 rCells w' (c + 1) vX' (ms ++ [m])) (hpl : ∀ j, vX'.ownBlock = some j → vX.ownBlock = some j ∨ wr.heap.size ≤ j)
    (hm : GoodM wr (fun j => c + 1 ≤ j ∧ ¬ (vX.ownBlock = some j)) m) (hf : FitM m) : ArrW w g b c B (ms ++ [m]) r vX' (w'.setCell ⟨c, 3, none⟩ vX') := by
  have hlt := h.own.lt
  have hk : Kept (fun j => vX.ownBlock = some j) wr w' := Kept.grown (Kept.refl _ wr) hg (fun j e _ => e)
  have hk1 : Kept (fun j => c + 1 ≤ j) wr w' := hk.mono (fun j _ e => (hlt j e).1)
  have hk2 : Kept (fun j => j = c) w' (w'.setCell ⟨c, 3, none⟩ vX') := Kept.setCell (S := fun j => j = c) (p := ⟨c, 3, none⟩) (Kept.refl _ w') (fun _ => rfl) _
  have h5 := hk1.heap h.box (by omega)
  have hsub : ∀ x, GoodM wr (fun j => c + 1 ≤ j ∧ ¬ (vX.ownBlock = some j)) x → GoodM (w'.setCell ⟨c, 3, none⟩ vX') (fun j => c + 1 ≤ j ∧ ¬ (vX'.ownBlock = some j)) x := fun x hx =>
    (hx.kept (Q := fun j => c + 1 ≤ j ∧ ¬ (vX'.ownBlock = some j)) hk (fun j _ hP e => hP.2 e) (fun j hj hP => ⟨hP.1, fun e => by
      rcases hpl j e with h1 | h1
      · exact hP.2 h1
      · omega⟩)).kept hk2 (fun j _ hP e => by omega) (fun _ _ h => h)
  refine ⟨(h.rd.keptS hk1 (fun i hi e => by omega)).keptS hk2 (fun i hi e => by omega), Kept.trans' (Kept.trans' h.kg hk1 (fun i hi e => by omega)) hk2 (fun i hi e => by omega), (h.z4.keptS hk1 (by omega)).keptS hk2 (by omega), ?_, hown.keptS hk2 (fun i hi _ e => by omega), fun x hx => ?_, fun x hx => ?_⟩
  · rw [heap_setCell_same h5 3 vX']
    simp
  · rcases List.mem_append.1 hx with hx | hx
    · exact hsub x (h.subs x hx)
    · obtain rfl := List.mem_singleton.1 hx
      exact hsub _ hm
  · rcases List.mem_append.1 hx with hx | hx
    · exact h.fits x hx
    · obtain rfl := List.mem_singleton.1 hx
      exact hf
theorem ArrW.cell {w : World} {g b c : Nat} {B : Bs} {ms : List RepM} {r : Bs} {vX : Value} {wr : World} (h : ArrW w g b c B ms r vX wr) : wr.cell? ⟨c, 3, none⟩ = some vX := cellB h.box rfl
/-- A row is handed back. -/
theorem ArrW.fin {w : World} {g b c : Nat} {B : Bs} {ms : List RepM} {r : Bs} {vX : Value} {wr : World} (h : ArrW w g b c B ms r vX wr) (hgb : g < b) (hbc : b < c) (hb : w.heap.size = b) (hms : ms.length ≤ 1000000000) :
    EndS g B (.ok (.mk 6 [] 0 (ms.map RepM.rep), r)) (retM b) w (.returned (.agg #[.int .i64 6, .string ⟨#[]⟩, .int .i64 0, vX])) ((((wr.setCell ⟨b, 0, none⟩ (.int .i64 6)).setCell ⟨b, 1, none⟩ (.string ⟨#[]⟩)).setCell ⟨b, 2, none⟩ (.int .i64 0)).setCell ⟨b, 3, none⟩ vX) := by
  have hk := (set4 h.z4 (.int .i64 6) (.string ⟨#[]⟩) (.int .i64 0) vX).2
  have hlt := h.own.lt
  refine ⟨Kept.trans' h.kg hk (fun i hi e => by omega), _, rfl, ⟨.mk 6 [] 0 vX ms, rfl, by rw [RepM.rep, repsM_map], ?_, ?_⟩, h.rd.keptS hk (fun i hi e => by omega)⟩
  · have hown := h.own.keptS hk (fun i hi _ e => by omega)
    refine .mk _ (OwnK.row rCells_len (by decide) hown) (fun _ j hj => ?_) (fun x hx => ((h.subs x hx).kept hk (fun j _ hP e => by omega) (fun j _ hP => (by omega : b ≤ j))))
    have : vX.ownBlock = some j := by
      rcases h.own.2 with ⟨rfl, _⟩ | ⟨i, cap, cur, rfl, _⟩
      · simp [RepM.v, vblk] at hj
      · simpa [RepM.v, Value.ownBlock, vblk] using hj
    have := (hlt j this).1
    show b ≤ j
    omega
  · exact .mk _ (by show (-9223372036854775808 : Int) ≤ 0; decide) (by show (0 : Int) ≤ 9223372036854775807; decide) (by simp [RepM.s]) (by show ms.length ≤ _; omega) h.fits
end Go.Proofs.YtpekeilpdbdnnaaDoor
namespace Go.Proofs.YtpekeilpdbdnnaaDoor
open Go.RowKit
attribute [local go_sem] fold_part fold_some fold_some' partAt_zero

set_option maxRecDepth 100000 in
set_option maxHeartbeats 3200000 in
theorem parr0 (g : Nat) (B l : Bs) (w : World) (h : RdS w g B l) (hl : B.length ≤ 1000000000) :
    Calls Tryd.prog 37 #[.pointer (some ⟨g, 0, none⟩), .int .i64 8] w (EndS g B (arr0 l) (retM w.heap.size) w) := by
  generalize hM : arr0 l = M
  rw [arr0_eq] at hM
  have HM := Lib.hid hM
  have HBL := Lib.hid hl
  have hka := Kept.allocd w (.cells #[.int .i64 0, .string ⟨#[]⟩, .int .i64 0, .slice none 0 0] 26)
  have hza : Z4 w.heap.size (w.alloc (.cells #[.int .i64 0, .string ⟨#[]⟩, .int .i64 0, .slice none 0 0] 26)) := heap_alloc_new w _
  have hgb := h.lt
  have hc := pmust g B l [45, 49, 13, 10] _ (h.kept hka) hl (by decide)
  unfold strV at hc
  have HC := Lib.hid hc
  have HKA := Lib.hid hka
  have HZA := Lib.hid hza
  clear hM h hl hka hza hc
  go_enter Tryd.func37, Tryd.ntmps37
  go_wp2_with fail
  generalize w.alloc (.cells #[.int .i64 0, .string ⟨#[]⟩, .int .i64 0, .slice none 0 0] 26) = W1 at *
  generalize hb : w.heap.size = b at *
  have HB := Lib.hid hb
  clear hb
  refine HC.out.mono ?_
  rintro e w2 ⟨hk2, he⟩
  have HK2 := Lib.hid ((HKA.out.kg g).trans hk2)
  have HZ2 := Lib.hid (HZA.out.keptS hk2 (by omega))
  clear hk2 HC HKA HZA
  have hm := HM.out
  cases hcb : unitB (mustsB [45, 49, 13, 10]) l with
  | error f =>
    rw [hcb] at he hm
    simp only at he hm
    subst he hm
    exact ⟨rfl, HK2.out, rfl⟩
  | ok v =>
    obtain ⟨u, q⟩ := v
    rw [hcb] at he hm
    simp only at he hm
    obtain ⟨v, rfl, _, hr2⟩ := he
    subst hm
    have HR2 := Lib.hid hr2
    clear hr2 hcb HM
    obtain ⟨e0, e1, e2, e3⟩ := blk4 HZ2.out
    have hz4 := fun i => frozenB HZ2.out i
    have HS4 := Lib.hid (set4 HZ2.out (.int .i64 7) (.string ⟨#[]⟩) (.int .i64 0) (.slice none 0 0))
    go_wp2_with fail
    refine bodyPost_ret (v := .agg #[.int .i64 7, .string ⟨#[]⟩, .int .i64 0, .slice none 0 0]) ((results_cell rfl _ _ _).trans ?_) rfl ?_
    · obtain ⟨f0, f1, f2, f3⟩ := blk4 HS4.out.1
      generalize ((((w2.setCell ⟨b, 0, none⟩ (.int .i64 7)).setCell ⟨b, 1, none⟩ (.string ⟨#[]⟩)).setCell ⟨b, 2, none⟩ (.int .i64 0)).setCell ⟨b, 3, none⟩ (.slice none 0 0)) = W6 at *
      go_simp
    · exact lend (s := []) HK2.out HR2.out hgb HB.out HZ2.out (by decide) (by decide) (by simp)

set_option maxRecDepth 100000 in
set_option maxHeartbeats 6400000 in
theorem parrS (k : Nat) (ih : PRp k) (j g : Nat) (B l : Bs) (w : World) (hj : j + 1 + k = 8) (h : RdS w g B l) (hl : B.length ≤ 1000000000) :
    Calls Tryd.prog 37 #[.pointer (some ⟨g, 0, none⟩), .int .i64 j] w (EndS g B (arrS k l) (retM w.heap.size) w) := by
  generalize hM : arrS k l = M
  unfold arrS andB at hM
  have HM := Lib.hid hM
  have HBL := Lib.hid hl
  have hka := Kept.allocd w (.cells #[.int .i64 0, .string ⟨#[]⟩, .int .i64 0, .slice none 0 0] 26)
  have hza : Z4 w.heap.size (w.alloc (.cells #[.int .i64 0, .string ⟨#[]⟩, .int .i64 0, .slice none 0 0] 26)) := heap_alloc_new w _
  have hgb := h.lt
  have hc := pcount g B l 131072 _ (h.kept hka) hl (by decide) (by decide)
  rw [show (((131072 : Nat) : Int)) = 131072 from rfl] at hc
  have HC := Lib.hid hc
  have HKA := Lib.hid hka
  have HZA := Lib.hid hza
  have hj8 : ¬ ((j : Int) = 8) := by omega
  have hj7 : j ≤ 7 := by omega
  have HJ := Lib.hid hj
  have HIH := Lib.hid ih
  clear hM h hl hka hza hc hj ih
  go_enter Tryd.func37, Tryd.ntmps37
  go_wp2_with fail
  generalize w.alloc (.cells #[.int .i64 0, .string ⟨#[]⟩, .int .i64 0, .slice none 0 0] 26) = W1 at *
  generalize hb : w.heap.size = b at *
  have HB := Lib.hid hb
  clear hb
  refine HC.out.mono ?_
  rintro e w2 ⟨hk2, he⟩
  have HK2 := Lib.hid ((HKA.out.kg g).trans hk2)
  have HZ2 := Lib.hid (HZA.out.keptS hk2 (by omega))
  clear hk2 HC HKA HZA
  have hm := HM.out
  cases hcb : countB 131072 l with
  | error f =>
    rw [hcb] at he hm
    simp only at he hm
    subst he hm
    exact ⟨rfl, HK2.out, rfl⟩
  | ok v =>
    obtain ⟨o, q⟩ := v
    rw [hcb] at he hm
    simp only at he hm
    obtain ⟨v, rfl, rfl, hr2⟩ := he
    cases o with
    | none =>
      simp only at hm
      subst hm
      have HR2 := Lib.hid hr2
      clear hr2 hcb HM
      obtain ⟨e0, e1, e2, e3⟩ := blk4 HZ2.out
      have hz4 := fun i => frozenB HZ2.out i
      have HS4 := Lib.hid (set4 HZ2.out (.int .i64 7) (.string ⟨#[]⟩) (.int .i64 0) (.slice none 0 0))
      go_wp2_with fail
      refine bodyPost_ret (v := .agg #[.int .i64 7, .string ⟨#[]⟩, .int .i64 0, .slice none 0 0]) ((results_cell rfl _ _ _).trans ?_) rfl ?_
      · obtain ⟨f0, f1, f2, f3⟩ := blk4 HS4.out.1
        generalize ((((w2.setCell ⟨b, 0, none⟩ (.int .i64 7)).setCell ⟨b, 1, none⟩ (.string ⟨#[]⟩)).setCell ⟨b, 2, none⟩ (.int .i64 0)).setCell ⟨b, 3, none⟩ (.slice none 0 0)) = W6 at *
        go_simp
      · exact lend (s := []) HK2.out HR2.out hgb HB.out HZ2.out (by decide) (by decide) (by simp)
    | some n =>
      simp only at hm
      have hn := countB_le hcb
      have hbc : b < w2.heap.size := lt_of_heap HZ2.out
      have hkb := Kept.allocd w2 (.cells #[.int .i64 6, .string ⟨#[]⟩, .int .i64 0, .slice none 0 0] 26)
      have hgc := heap_alloc_new w2 (.cells #[.int .i64 6, .string ⟨#[]⟩, .int .i64 0, .slice none 0 0] 26)
      have HRW := Lib.hid (show ArrW w g b w2.heap.size B [] q (.slice none 0 0) (w2.alloc (.cells #[.int .i64 6, .string ⟨#[]⟩, .int .i64 0, .slice none 0 0] 26)) from
        ⟨hr2.kept hkb, HK2.out.trans (hkb.kg g), HZ2.out.keptS hkb (fun h => h), hgc, OwnK.nil _ _, fun m hm => (by cases hm), fun m hm => (by cases hm)⟩)
      have HMM := Lib.hid hm
      clear hr2 hcb HM hm hkb hgc HK2 HZ2
      go_wp2_with fail
      generalize w2.alloc (.cells #[.int .i64 6, .string ⟨#[]⟩, .int .i64 0, .slice none 0 0] 26) = W2 at *
      generalize w2.heap.size = c at *
      go_loopw [21] (fun v21 wr => ∃ (i : Nat) (ms : List RepM) (r : Bs) (vX : Value), v21 = .int .i64 i ∧ i ≤ n ∧ ms.length = i ∧ ArrW w g b c B ms r vX wr ∧ itemsB (repE k) n q = mapI (ms.map RepM.rep) (itemsB (repE k) (n - i) r)) (fun v21 _ => n - (intOf v21).toNat)
      case atStart => exact ⟨0, [], q, _, rfl, Nat.zero_le _, rfl, HRW.out, by rw [List.map_nil, mapI_nil]; rfl⟩
      case round =>
        obtain ⟨i, ms, r, vX, rfl, hi, hms, hrw, hmod⟩ := hrel
        have HW := Lib.hid hrw
        have HMO := Lib.hid hmod
        have HMS := Lib.hid hms
        clear hrw hmod hms
        by_cases hlt : i < n
        · go_wp2_with fail
          have hcell := HW.out.cell
          refine wp_planC (fun W => W.cell? ⟨c, 3, none⟩ = some vX) 9 [.flt 0, .flt 1, .seg [2, 3, 4] 5, .seg [] 6, .seg [] 7, .seg [8] 9] [] (by kernel_rfl) (by kernel_rfl) (fun _ _ _ dst _ h => by cases dst <;> exact h) (fun _ _ h => h) hcell (fun n0 => ?_)
          repeat (refine planC_flt rfl rfl ?_; apply Exists.intro; refine ⟨fun w' hw' => ?_, ?_⟩; (go_simp; first | rfl | exact ⟨rfl, rfl⟩); simp only [Act.put, List.setIfInBounds_toArray, List.set_cons_succ, List.set_cons_zero])
          simp only [wpPlanC, pick, List.filterMap_cons, List.filterMap_nil, List.getElem?_cons_succ, List.getElem?_cons_zero]
          repeat (quiet_step (fail))
          refine wpQuiet_nil ?_
          rintro _ ⟨n1, rfl⟩
          clear hcell
          have HWN := Lib.hid (HW.out.kept ((Kept.refl NoBlock wr).drewN (n0 + n1)))
          have hcall := HIH.out (j + 1) g B r (wr.drewN (n0 + n1)) (by have := HJ.out; omega) HWN.out.rd HBL.out
          rw [show (((j + 1 : Nat) : Int)) = (j : Int) + 1 by omega] at hcall
          have HCALL := Lib.hid hcall
          have HSZ := Lib.hid (show wr.heap.size = (wr.drewN (n0 + n1)).heap.size from rfl)
          clear hcall
          go_wp2_with fail
          generalize wr.drewN (n0 + n1) = wn at *
          refine HCALL.out.mono ?_
          rintro e w3 ⟨hk, he⟩
          cases htk : repE k r with
          | error f =>
            rw [htk] at he
            simp only at he
            subst he
            have hno : itemsB (repE k) n q = .error f := by
              rw [HMO.out, show n - i = (n - i - 1) + 1 by omega]
              exact items_no _ htk
            have hm := HMM.out
            rw [hno] at hm
            simp only at hm
            subst hm
            exact ⟨rfl, HWN.out.kg.trans hk, rfl⟩
          | ok p =>
            obtain ⟨x, r2⟩ := p
            rw [htk] at he
            simp only at he
            obtain ⟨v, rfl, ⟨m, rfl, rfl, hgm, hfm⟩, hr3⟩ := he
            have hown3 := HWN.out.own.lt
            have HW3 := Lib.hid (HWN.out.read hk hr3 hgb hbc)
            have hmo3 := HMO.out
            rw [show n - i = (n - i - 1) + 1 by omega, items_next _ htk] at hmo3
            have HMO3 := Lib.hid hmo3
            have HGM := Lib.hid (hgm.mono (Q := fun j => c + 1 ≤ j ∧ ¬ (vX.ownBlock = some j)) (fun j _ hP => ⟨by have := lt_of_heap HWN.out.box; omega, fun e => by have := (hown3 j e).2; omega⟩))
            have HFM := Lib.hid hfm
            obtain ⟨apm, capm, hvm, _⟩ := hgm.row.parts
            clear hk htk hgm hfm hr3 hown3 hmo3 HCALL HWN HMO HW HSZ
            unfold repA
            rw [hvm]
            have HVM := Lib.hid hvm
            clear hvm
            unfold strV
            go_wp2_with fail
            refine Halt.mk ⟨.inr HW3.out.cell, ?_⟩
            have HA := Lib.hid (Kept.allocd w3 (.cells #[.int .i64 m.k, .string ⟨m.s.toArray⟩, .int .i64 m.n, .slice apm m.l.length capm] 26))
            have HGA := Lib.hid (heap_alloc_new w3 (.cells #[.int .i64 m.k, .string ⟨m.s.toArray⟩, .int .i64 m.n, .slice apm m.l.length capm] 26))
            have HWA := Lib.hid (HW3.out.kept HA.out)
            have HGM2 := Lib.hid (HGM.out.keptN HA.out)
            go_wp2_with fail
            generalize w3.alloc (.cells #[.int .i64 m.k, .string ⟨m.s.toArray⟩, .int .i64 m.n, .slice apm m.l.length capm] 26) = wA at *
            generalize w3.heap.size = gA at *
            refine Halt.mk ⟨.inr HWA.out.cell, ?_⟩
            refine wpList_appP rfl _ _ 24 (by rfl) Tryd.underlying24 _ 56 repInfo rfl (by decide) (by decide) rCells_len (c + 1) vX ms (by rfl) HWA.out.own gA m #[.int .i64 m.k, .string ⟨m.s.toArray⟩, .int .i64 m.n, .slice apm m.l.length capm] (0, 0) (by rfl) HGA.out (by unfold rCells strV; rw [HVM.out]) (rCells_one m (by rw [HVM.out]; rfl)) (by have := HMS.out; omega) (by have := lt_of_heap HWA.out.box; omega) ?_
            intro v' w' hown hgr hpl
            obtain ⟨ap', cap', rfl⟩ := OwnK.form rCells_len (by decide) hown
            rw [List.length_append, List.length_singleton] at hown hpl ⊢
            have HW9 := Lib.hid (ArrW.grow HWA.out hgb hbc HB.out hgr hown hpl HGM2.out HFM.out)
            have hk9 := grownS (B := c + 1) hgr (fun j e => (HWA.out.own.lt j e).1)
            have h59 := hk9.heap HWA.out.box (by omega)
            have hc9 : w'.cell? ⟨c, 3, none⟩ = some vX := cellB h59 rfl
            have hz9 := fun i => frozenB h59 i
            clear hown hgr hpl hk9 h59
            go_wp2_with fail
            refine Halt.mk ⟨.inr hc9, ?_⟩
            repeat (quiet_step (fail))
            refine wpQuiet_nil ?_
            rintro _ ⟨n2, rfl⟩
            go_wp2_with fail
            refine Halt.mk ⟨.inl trivial, ?_⟩
            have HW10 := Lib.hid (HW9.out.kept ((Kept.refl NoBlock _).drewN n2))
            clear hc9 hz9
            go_wp2_with fail
            go_roundw
            case rel => exact ⟨i + 1, ms ++ [m], r2, _, by go_num, by omega, by rw [List.length_append, List.length_singleton, HMS.out], HW10.out, by rw [HMO3.out, List.map_append, show n - (i + 1) = n - i - 1 by omega]; rfl⟩
            case measure => simp [intOf]; omega
        · obtain rfl : i = n := by omega
          have hmo := HMO.out
          rw [Nat.sub_self, itemsB, mapI] at hmo
          have hm := HMM.out
          rw [hmo] at hm
          simp only [List.append_nil] at hm
          subst hm
          obtain ⟨apX, capX, rfl⟩ := OwnK.form rCells_len (by decide) HW.out.own
          obtain ⟨d0, d1, d2, d3⟩ := blk4 HW.out.box
          obtain ⟨e0, e1, e2, e3⟩ := blk4 HW.out.z4
          have hz4 := fun i => frozenB HW.out.z4 i
          have HS4 := Lib.hid (set4 HW.out.z4 (.int .i64 6) (.string ⟨#[]⟩) (.int .i64 0) (.slice apX ms.length capX))
          clear hmo
          go_wp2_with fail
          refine bodyPost_ret (v := .agg #[.int .i64 6, .string ⟨#[]⟩, .int .i64 0, .slice apX ms.length capX]) ((results_cell rfl _ _ _).trans ?_) rfl ?_
          · obtain ⟨f0, f1, f2, f3⟩ := blk4 HS4.out.1
            generalize ((((wr.setCell ⟨b, 0, none⟩ (.int .i64 6)).setCell ⟨b, 1, none⟩ (.string ⟨#[]⟩)).setCell ⟨b, 2, none⟩ (.int .i64 0)).setCell ⟨b, 3, none⟩ (.slice apX ms.length capX)) = W6 at *
            go_simp
          · exact HW.out.fin hgb hbc HB.out (by have := HMS.out; omega)
end Go.Proofs.YtpekeilpdbdnnaaDoor
namespace Go.Proofs.YtpekeilpdbdnnaaDoor
open Go.RowKit
attribute [local go_sem] fold_part fold_some fold_some' partAt_zero

theorem lineO_len : ∀ (l : Bs) (k : Nat) {s q : Bs}, lineO k l = .ok (s, q) → s.length ≤ l.length
  | [], k, s, q, h => by rw [lineO] at h; cases h
  | c :: r, k, s, q, h => by
    rw [lineO] at h
    split at h
    · cases h; simp
    · split at h
      · cases h
      · cases h1 : lineO (k - 1) r with
        | error e => rw [h1] at h; cases h
        | ok v =>
          obtain ⟨s', t⟩ := v
          rw [h1] at h
          cases h
          have := lineO_len r (k - 1) h1
          simp only [List.length_cons]
          omega
theorem lineE_len {l s q : Bs} (h : lineE l = .ok (s, q)) : s.length ≤ l.length := by
  unfold lineE at h
  cases h1 : lineO 65536 l with
  | error e => rw [h1] at h; cases h
  | ok v =>
    obtain ⟨s', t⟩ := v
    rw [h1] at h
    simp only at h
    cases h2 : endB t with
    | error e => rw [h2] at h; cases h
    | ok t2 => rw [h2] at h; cases h; exact lineO_len l _ h1
theorem integerB_in {l q : Bs} {n : Int} (h : integerB l = .ok (n, q)) : -9223372036854775808 ≤ n ∧ n ≤ 9223372036854775807 := by
  unfold integerB at h
  cases l with
  | nil => cases h
  | cons c r =>
    simp only [nextB] at h
    by_cases h45 : c = 45
    · simp only [if_pos h45, List.drop_succ_cons, List.drop_zero] at h
      cases r with
      | nil => cases h
      | cons d r2 =>
        simp only at h
        by_cases h48 : d = 48
        · simp only [if_pos h48] at h; cases h
        · simp only [if_neg h48] at h
          cases h1 : numbB 9223372036854775808 (d :: r2) with
          | error e => rw [h1] at h; cases h
          | ok v =>
            obtain ⟨u, t⟩ := v
            rw [h1] at h
            cases h
            have := numbB_le h1
            omega
    · simp only [if_neg h45] at h
      cases h1 : numbB 9223372036854775807 (c :: r) with
      | error e => rw [h1] at h; cases h
      | ok v =>
        obtain ⟨u, t⟩ := v
        rw [h1] at h
        cases h
        have := numbB_le h1
        omega
/-- What a call has made is handed on: its box was stored. -/
theorem mend {g b : Nat} {B r : Bs} {w w3 : World} {m : RepM} (h : KG g w w3) (hr : RdS w3 g B r) (hgb : g < b) (hb : w.heap.size = b) (hz : Z4 b w3) (hg : GoodM w3 (fun j => b + 1 ≤ j) m) (hf : FitM m) :
    EndS g B (.ok (m.rep, r)) (retM b) w (.returned (repA m)) ((((w3.setCell ⟨b, 0, none⟩ (.int .i64 m.k)).setCell ⟨b, 1, none⟩ (strV m.s)).setCell ⟨b, 2, none⟩ (.int .i64 m.n)).setCell ⟨b, 3, none⟩ m.v) := by
  have hk := (set4 hz (.int .i64 m.k) (strV m.s) (.int .i64 m.n) m.v).2
  exact ⟨Kept.trans' h hk (fun i hi e => by omega), _, rfl, ⟨m, rfl, rfl, hg.kept hk (fun j _ hP e => by omega) (fun j _ hP => (by omega : b ≤ j)), hf⟩, hr.keptS hk (fun i hi e => by omega)⟩
theorem RdP.back {w : World} {g : Nat} {B t : Bs} {p : Nat} {c : UInt8} (h : RdP w g B (p + 1) t) (hd : c :: t = B.drop p) : RdP (w.setCell ⟨g, 1, none⟩ (.int .i64 p)) g B p (c :: t) ∧ KG g w (w.setCell ⟨g, 1, none⟩ (.int .i64 p)) := by
  obtain ⟨v, hg, hb, hbl, hp, hq⟩ := h
  have hkg := kg_set (w := w) g 1 (.int .i64 p)
  exact ⟨⟨v, heap_setCell_same hg 1 _, hb.kept hkg (fun b e h => by have := hbl b e; omega), hbl, by omega, hd⟩, hkg⟩

set_option maxRecDepth 100000 in
set_option maxHeartbeats 6400000 in
theorem preplyX (arr : Bs → Except Flt (Rep × Bs)) (j g : Nat) (B l : Bs) (w : World) (h : RdS w g B l) (hl : B.length ≤ 1000000000)
    (harr : ∀ (l' : Bs) (w' : World), RdS w' g B l' → Calls Tryd.prog 37 #[.pointer (some ⟨g, 0, none⟩), .int .i64 j] w' (EndS g B (arr l') (retM w'.heap.size) w')) :
    Calls Tryd.prog 23 #[.pointer (some ⟨g, 0, none⟩), .int .i64 j] w (EndS g B (repX arr l) (retM w.heap.size) w) := by
  generalize hM : repX arr l = M
  have HM := Lib.hid hM
  have HBL := Lib.hid hl
  have HARR := Lib.hid harr
  have hka := Kept.allocd w (.cells #[.int .i64 0, .string ⟨#[]⟩, .int .i64 0, .slice none 0 0] 26)
  have hza : Z4 w.heap.size (w.alloc (.cells #[.int .i64 0, .string ⟨#[]⟩, .int .i64 0, .slice none 0 0] 26)) := heap_alloc_new w _
  have hgb := h.lt
  have hnx := pnext g B l _ (h.kept hka) hl
  have HNX := Lib.hid hnx
  have HR1 := Lib.hid (h.kept hka)
  have HKA := Lib.hid hka
  have HZA := Lib.hid hza
  clear hM h hl hka hza hnx harr
  go_enter Tryd.func23, Tryd.ntmps23
  go_wp2_with fail
  generalize w.alloc (.cells #[.int .i64 0, .string ⟨#[]⟩, .int .i64 0, .slice none 0 0] 26) = W1 at *
  generalize hb : w.heap.size = b at *
  have HB := Lib.hid hb
  clear hb
  refine HNX.out.mono ?_
  rintro e w2 ⟨hk2, he⟩
  have HK2 := Lib.hid ((HKA.out.trans hk2).kg g)
  have HZ2 := Lib.hid (HZA.out.keptS hk2 (fun h => h))
  have HR2 := Lib.hid (HR1.out.kept hk2)
  clear hk2 HNX HKA HZA HR1
  cases l with
  | nil =>
    obtain rfl : e = .panicked (snapF B.length 31) := he
    have hMe : M = .error (0, true) := by rw [← HM.out]; rfl
    subst hMe
    exact ⟨rfl, HK2.out, rfl⟩
  | cons c t =>
    obtain rfl : e = .returned (.int .u8 c.toNat) := he
    obtain ⟨p, hp⟩ := HR2.out.toP
    obtain ⟨c1, f1⟩ := hp.cell
    have hp9 : p ≤ 1000000000 := by have := hp.le; have := HBL.out; omega
    have hrest := hp.rest
    have hst := hp.step
    have HP3 := Lib.hid hst.1
    have HK3 := Lib.hid (HK2.out.trans hst.2)
    have HZ3 := Lib.hid (HZ2.out.keptS hst.2 (by omega))
    have HRE := Lib.hid hrest
    have hm := HM.out
    rw [repX_cons] at hm
    clear hp hrest hst HR2 HK2 HZ2 HM
    by_cases h43 : c = 43
    · subst h43
      rw [show (((43 : UInt8).toNat : Int)) = 43 from rfl]
      rw [if_pos rfl] at hm
      have HL := Lib.hid (pline_r g B t _ HP3.out.toS HBL.out)
      have HMM := Lib.hid hm
      clear hm
      go_wp2_with fail
      refine HL.out.mono ?_
      rintro e w4 ⟨hk4, he⟩
      have HK4 := Lib.hid (HK3.out.trans hk4)
      have HZ4 := Lib.hid (HZ3.out.keptS hk4 (by omega))
      clear hk4
      have hm := HMM.out
      unfold andB at hm
      cases hle : lineE t with
      | error f =>
        rw [hle] at he hm
        simp only at he hm
        subst he hm
        exact ⟨rfl, HK4.out, rfl⟩
      | ok v =>
        obtain ⟨s, t2⟩ := v
        rw [hle] at he hm
        simp only at he hm
        obtain ⟨v, rfl, rfl, hr5⟩ := he
        subst hm
        have hsl := lineE_len hle
        have htl := HP3.out.toS.le
        have hs9 : s.length ≤ 1000000000 := by have := HBL.out; omega
        have HR5 := Lib.hid hr5
        obtain ⟨e0, e1, e2, e3⟩ := blk4 HZ4.out
        have hz4 := fun i => frozenB HZ4.out i
        have HS4 := Lib.hid (set4 HZ4.out (.int .i64 1) (.string ⟨s.toArray⟩) (.int .i64 0) (.slice none 0 0))
        clear hr5 hle HMM hsl htl
        unfold strV
        go_wp2_with fail
        refine bodyPost_ret (v := .agg #[.int .i64 1, .string ⟨s.toArray⟩, .int .i64 0, .slice none 0 0]) ((results_cell rfl _ _ _).trans ?_) rfl ?_
        · obtain ⟨f0, f1, f2, f3⟩ := blk4 HS4.out.1
          generalize ((((w4.setCell ⟨b, 0, none⟩ (.int .i64 1)).setCell ⟨b, 1, none⟩ (.string ⟨s.toArray⟩)).setCell ⟨b, 2, none⟩ (.int .i64 0)).setCell ⟨b, 3, none⟩ (.slice none 0 0)) = W6 at *
          go_simp
        · exact lend HK4.out HR5.out hgb HB.out HZ4.out (by decide) (by decide) (by omega)
    by_cases h45 : c = 45
    · subst h45
      rw [show (((45 : UInt8).toNat : Int)) = 45 from rfl]
      rw [if_neg (by decide), if_pos rfl] at hm
      have HL := Lib.hid (pline_r g B t _ HP3.out.toS HBL.out)
      have HMM := Lib.hid hm
      clear hm
      go_wp2_with fail
      refine HL.out.mono ?_
      rintro e w4 ⟨hk4, he⟩
      have HK4 := Lib.hid (HK3.out.trans hk4)
      have HZ4 := Lib.hid (HZ3.out.keptS hk4 (by omega))
      clear hk4
      have hm := HMM.out
      unfold andB at hm
      cases hle : lineE t with
      | error f =>
        rw [hle] at he hm
        simp only at he hm
        subst he hm
        exact ⟨rfl, HK4.out, rfl⟩
      | ok v =>
        obtain ⟨s, t2⟩ := v
        rw [hle] at he hm
        simp only at he hm
        obtain ⟨v, rfl, rfl, hr5⟩ := he
        subst hm
        have hsl := lineE_len hle
        have htl := HP3.out.toS.le
        have hs9 : s.length ≤ 1000000000 := by have := HBL.out; omega
        have HR5 := Lib.hid hr5
        obtain ⟨e0, e1, e2, e3⟩ := blk4 HZ4.out
        have hz4 := fun i => frozenB HZ4.out i
        have HS4 := Lib.hid (set4 HZ4.out (.int .i64 2) (.string ⟨s.toArray⟩) (.int .i64 0) (.slice none 0 0))
        clear hr5 hle HMM hsl htl
        unfold strV
        go_wp2_with fail
        refine bodyPost_ret (v := .agg #[.int .i64 2, .string ⟨s.toArray⟩, .int .i64 0, .slice none 0 0]) ((results_cell rfl _ _ _).trans ?_) rfl ?_
        · obtain ⟨f0, f1, f2, f3⟩ := blk4 HS4.out.1
          generalize ((((w4.setCell ⟨b, 0, none⟩ (.int .i64 2)).setCell ⟨b, 1, none⟩ (.string ⟨s.toArray⟩)).setCell ⟨b, 2, none⟩ (.int .i64 0)).setCell ⟨b, 3, none⟩ (.slice none 0 0)) = W6 at *
          go_simp
        · exact lend HK4.out HR5.out hgb HB.out HZ4.out (by decide) (by decide) (by omega)
    by_cases h58 : c = 58
    · subst h58
      rw [show (((58 : UInt8).toNat : Int)) = 58 from rfl]
      rw [if_neg (by decide), if_neg (by decide), if_pos rfl] at hm
      have HL := Lib.hid (pinteger g B t _ HP3.out.toS HBL.out)
      have HMM := Lib.hid hm
      clear hm
      go_wp2_with fail
      refine HL.out.mono ?_
      rintro e w4 ⟨hk4, he⟩
      have HK4 := Lib.hid (HK3.out.trans hk4)
      have HZ4 := Lib.hid (HZ3.out.keptS hk4 (by omega))
      clear hk4
      have hm := HMM.out
      unfold andB at hm
      cases hle : integerB t with
      | error f =>
        rw [hle] at he hm
        simp only at he hm
        subst he hm
        exact ⟨rfl, HK4.out, rfl⟩
      | ok v =>
        obtain ⟨n, t2⟩ := v
        rw [hle] at he hm
        simp only at he hm
        obtain ⟨v, rfl, rfl, hr5⟩ := he
        have hin := integerB_in hle
        have HMU := Lib.hid (pmust g B t2 [13, 10] w4 hr5 HBL.out (by decide))
        unfold strV at HMU
        have hme : M = match unitB (mustsB [13, 10]) t2 with | .ok (_, t) => .ok (.mk 3 [] n [], t) | .error e => .error e := by
          rw [← hm]
          unfold unitB
          rw [musts_end]
          cases endB t2 <;> rfl
        have HME := Lib.hid hme
        clear hr5 hle HMM hm hme
        go_wp2_with fail
        refine HMU.out.mono ?_
        rintro e w5 ⟨hk5, he⟩
        have HK5 := Lib.hid (HK4.out.trans hk5)
        have HZ5 := Lib.hid (HZ4.out.keptS hk5 (by omega))
        clear hk5
        cases hmu : unitB (mustsB [13, 10]) t2 with
        | error f =>
          rw [hmu] at he
          simp only at he
          subst he
          have hMe : M = .error f := by rw [HME.out, hmu]
          subst hMe
          exact ⟨rfl, HK5.out, rfl⟩
        | ok v =>
          obtain ⟨u, t3⟩ := v
          rw [hmu] at he
          simp only at he
          obtain ⟨v, rfl, _, hr5⟩ := he
          have hMe : M = .ok (.mk 3 [] n [], t3) := by rw [HME.out, hmu]
          subst hMe
          have HR5 := Lib.hid hr5
          obtain ⟨e0, e1, e2, e3⟩ := blk4 HZ5.out
          have hz4 := fun i => frozenB HZ5.out i
          have HS4 := Lib.hid (set4 HZ5.out (.int .i64 3) (.string ⟨#[]⟩) (.int .i64 n) (.slice none 0 0))
          clear hr5 hmu
          go_wp2_with fail
          refine bodyPost_ret (v := .agg #[.int .i64 3, .string ⟨#[]⟩, .int .i64 n, .slice none 0 0]) ((results_cell rfl _ _ _).trans ?_) rfl ?_
          · obtain ⟨f0, f1, f2, f3⟩ := blk4 HS4.out.1
            generalize ((((w5.setCell ⟨b, 0, none⟩ (.int .i64 3)).setCell ⟨b, 1, none⟩ (.string ⟨#[]⟩)).setCell ⟨b, 2, none⟩ (.int .i64 n)).setCell ⟨b, 3, none⟩ (.slice none 0 0)) = W6 at *
            go_simp
          · exact lend (s := []) HK5.out HR5.out hgb HB.out HZ5.out hin.1 hin.2 (by simp)
    by_cases h36 : c = 36
    · subst h36
      rw [show (((36 : UInt8).toNat : Int)) = 36 from rfl]
      rw [if_neg (by decide), if_neg (by decide), if_neg (by decide), if_pos rfl] at hm
      have HL := Lib.hid (pbulk g B t _ HP3.out.toS HBL.out)
      have hsz3 := lt_of_heap HZ3.out
      have HSZ := Lib.hid hsz3
      clear hsz3
      go_wp2_with fail
      refine HL.out.mono ?_
      rintro e w4 ⟨hk4, he⟩
      have HK4 := Lib.hid (HK3.out.trans hk4)
      have HZ4 := Lib.hid (HZ3.out.keptS hk4 (by omega))
      clear hk4
      cases hle : bulkE t with
      | error f =>
        rw [hle] at he hm
        simp only at he
        subst he hm
        exact ⟨rfl, HK4.out, rfl⟩
      | ok v =>
        obtain ⟨x, t2⟩ := v
        rw [hle] at he hm
        simp only at he
        obtain ⟨v, rfl, ⟨m, rfl, rfl, hgm, hfm⟩, hr5⟩ := he
        subst hm
        have HR5 := Lib.hid hr5
        have HGM := Lib.hid (hgm.mono (Q := fun j => b + 1 ≤ j) (fun j _ hP => by have := HSZ.out; omega))
        have HFM := Lib.hid hfm
        obtain ⟨apm, capm, hvm, _⟩ := hgm.row.parts
        have HVM := Lib.hid hvm
        obtain ⟨e0, e1, e2, e3⟩ := blk4 HZ4.out
        have hz4 := fun i => frozenB HZ4.out i
        have HS4 := Lib.hid (set4 HZ4.out (.int .i64 m.k) (.string ⟨m.s.toArray⟩) (.int .i64 m.n) (.slice apm m.l.length capm))
        unfold repA
        rw [hvm]
        unfold strV
        clear hr5 hle hgm hfm hvm
        go_wp2_with fail
        refine bodyPost_ret (v := .agg #[.int .i64 m.k, .string ⟨m.s.toArray⟩, .int .i64 m.n, .slice apm m.l.length capm]) ((results_cell rfl _ _ _).trans ?_) rfl ?_
        · obtain ⟨f0, f1, f2, f3⟩ := blk4 HS4.out.1
          generalize ((((w4.setCell ⟨b, 0, none⟩ (.int .i64 m.k)).setCell ⟨b, 1, none⟩ (.string ⟨m.s.toArray⟩)).setCell ⟨b, 2, none⟩ (.int .i64 m.n)).setCell ⟨b, 3, none⟩ (.slice apm m.l.length capm)) = W6 at *
          go_simp
        · have := mend HK4.out HR5.out hgb HB.out HZ4.out HGM.out HFM.out
          unfold repA strV at this
          rw [HVM.out] at this
          exact this
    by_cases h42 : c = 42
    · subst h42
      rw [show (((42 : UInt8).toNat : Int)) = 42 from rfl]
      rw [if_neg (by decide), if_neg (by decide), if_neg (by decide), if_neg (by decide), if_pos rfl] at hm
      have HL := Lib.hid (HARR.out t _ HP3.out.toS)
      have hsz3 := lt_of_heap HZ3.out
      have HSZ := Lib.hid hsz3
      clear hsz3
      go_wp2_with fail
      refine HL.out.mono ?_
      rintro e w4 ⟨hk4, he⟩
      have HK4 := Lib.hid (HK3.out.trans hk4)
      have HZ4 := Lib.hid (HZ3.out.keptS hk4 (by omega))
      clear hk4
      cases hle : arr t with
      | error f =>
        rw [hle] at he hm
        simp only at he
        subst he hm
        exact ⟨rfl, HK4.out, rfl⟩
      | ok v =>
        obtain ⟨x, t2⟩ := v
        rw [hle] at he hm
        simp only at he
        obtain ⟨v, rfl, ⟨m, rfl, rfl, hgm, hfm⟩, hr5⟩ := he
        subst hm
        have HR5 := Lib.hid hr5
        have HGM := Lib.hid (hgm.mono (Q := fun j => b + 1 ≤ j) (fun j _ hP => by have := HSZ.out; omega))
        have HFM := Lib.hid hfm
        obtain ⟨apm, capm, hvm, _⟩ := hgm.row.parts
        have HVM := Lib.hid hvm
        obtain ⟨e0, e1, e2, e3⟩ := blk4 HZ4.out
        have hz4 := fun i => frozenB HZ4.out i
        have HS4 := Lib.hid (set4 HZ4.out (.int .i64 m.k) (.string ⟨m.s.toArray⟩) (.int .i64 m.n) (.slice apm m.l.length capm))
        unfold repA
        rw [hvm]
        unfold strV
        clear hr5 hle hgm hfm hvm
        go_wp2_with fail
        refine bodyPost_ret (v := .agg #[.int .i64 m.k, .string ⟨m.s.toArray⟩, .int .i64 m.n, .slice apm m.l.length capm]) ((results_cell rfl _ _ _).trans ?_) rfl ?_
        · obtain ⟨f0, f1, f2, f3⟩ := blk4 HS4.out.1
          generalize ((((w4.setCell ⟨b, 0, none⟩ (.int .i64 m.k)).setCell ⟨b, 1, none⟩ (.string ⟨m.s.toArray⟩)).setCell ⟨b, 2, none⟩ (.int .i64 m.n)).setCell ⟨b, 3, none⟩ (.slice apm m.l.length capm)) = W6 at *
          go_simp
        · have := mend HK4.out HR5.out hgb HB.out HZ4.out HGM.out HFM.out
          unfold repA strV at this
          rw [HVM.out] at this
          exact this
    · rw [if_neg h43, if_neg h45, if_neg h58, if_neg h36, if_neg h42] at hm
      subst hm
      have n43 : ¬ ((c.toNat : Int) = 43) := u8n 43 rfl h43
      have n45 : ¬ ((c.toNat : Int) = 45) := u8n 45 rfl h45
      have n58 : ¬ ((c.toNat : Int) = 58) := u8n 58 rfl h58
      have n36 : ¬ ((c.toNat : Int) = 36) := u8n 36 rfl h36
      have n42 : ¬ ((c.toNat : Int) = 42) := u8n 42 rfl h42
      obtain ⟨k, hk⟩ : ∃ k, k = c.toNat := ⟨_, rfl⟩
      rw [← hk] at n43 n45 n58 n36 n42 ⊢
      obtain ⟨d1, z1⟩ := HP3.out.cell
      have hbk := HP3.out.back HRE.out
      have HB4 := Lib.hid hbk.1
      have HK4 := Lib.hid (HK3.out.trans hbk.2)
      have HW := Lib.hid (pwrong g B (c :: t) _ hbk.1.toS)
      rw [show (((p + 1 : Nat) : Int)) = (p : Int) + 1 by omega] at d1
      clear hk h43 h45 h58 h36 h42 hbk
      go_wp2_with fail
      refine HW.out.mono ?_
      rintro e w4 ⟨rfl, rfl⟩
      exact ⟨rfl, HK4.out, rfl⟩
theorem preply : ∀ k, PRp k := by
  intro k
  induction k with
  | zero =>
    intro j g B l w hj h hl
    obtain rfl : j = 8 := by omega
    rw [repX_eq (k := 0) (arr := arr0) (fun t => repE0 t)]
    exact preplyX arr0 8 g B l w h hl (fun l' w' h' => parr0 g B l' w' h' hl)
  | succ k ih =>
    intro j g B l w hj h hl
    rw [repX_eq (k := k + 1) (arr := arrS k) (fun t => repES k t)]
    exact preplyX (arrS k) j g B l w h hl (fun l' w' h' => parrS k ih j g B l' w' (by omega) h' hl)
end Go.Proofs.YtpekeilpdbdnnaaDoor
