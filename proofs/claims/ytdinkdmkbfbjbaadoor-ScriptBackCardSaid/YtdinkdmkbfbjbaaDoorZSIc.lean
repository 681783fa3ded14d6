/- Merged: What all laws' rows share: a law that returns true and leaves what was there; What the rows list: a world in which it holds; what the walks take from it; The rows' wrap that hands the contract what the row lists and the world's shape; a deed that came in; Deeds and rows of deeds that came in; Settings that came in. -/
import Derived.Test.YtdinkdmkbfbjbaaDoorRows
import Derived.Test.YtdinkdmkbfbjbaaDoorZBd
import Derived.WalkKit
import Derived.ProofKit
import Derived.OpenShut
import Derived.JoinedCond
import Derived.Test.YtdinkdmkbfbjbaaDoorZFu
import Derived.Lib.LaidIn
import Derived.Lib.LaidTab
import Derived.Stop.LaidErr
import Derived.LaidLaws
import Derived.ChangeSame
import Derived.ChangeVars
import Derived.ChangeMaps5
import Derived.JoinedOf
import Derived.JoinedAt
import Derived.RowKit
import Derived.RowKit3
import Derived.Test.YtdinkdmkbfbjbaaDoorZAl
import Derived.Handed
import Derived.Test.YtdinkdmkbfbjbaaDoorZLt
import Derived.Lib.SmallJoins
import Derived.Deep.Slices
set_option linter.all false
namespace Go.Proofs.YtdinkdmkbfbjbaaDoor
open Go.ChangeShapes Go.WideShapes Go.ChangeAt Go.RowKit

theorem own : ownKnob Tryd.prog.godebug = none := by kernel_rfl
theorem laidOut : laidOutB Tryd.prog = true := by kernel_rfl

theorem trodAll_below {H : Type} {enc : TypeId × Value → H} {P : Program} (hl : laidOutB P = true) {W W' : World} (hb : Below W.heap.size W W') :
    ∀ {ts : List TypeId} {vs : List Value} {ds : List (DataW H)} {ps : List MemPlace}, (∀ t ∈ ts, P.readableRec t = true ∧ t < P.types.size) →
      DataW.TrodAll enc P W 0 (fun _ => true) true ts vs ds ps → (∀ x ∈ ps, x.block < W.heap.size) → DataW.TrodAll enc P W' 0 (fun b => decide (b < W.heap.size)) true ts vs ds ps
  | [], vs, ds, ps, _, h, _ => by
    obtain ⟨rfl, rfl, rfl⟩ := trodAll_nil h
    exact trodAll_mk0
  | t :: ts, vs, ds, ps, hr, h, hlt => by
    obtain ⟨v, vs', d, ds', p, q, rfl, rfl, rfl, h0, h1⟩ := trodAll_cons h
    exact trodAll_cons_mk (Below.trod hl (hr t (by simp)).1 (hr t (by simp)).2 h0 hb (fun x hx => hlt x (by simp [hx])))
      (trodAll_below hl hb (fun t ht => hr t (by simp [ht])) h1 (fun x hx => hlt x (by simp [hx])))

theorem law_post {H : Type} {enc : TypeId × Value → H} {P : Program} {f : Func} {s : ChangeSpec} {W W' : World} {args : Array Value} {ds gs : List (DataW H)} {before : List MemPlace} {b : TypeId}
    (hW : DataW.Whole enc P f.params.toList s.vars false W args.toList ds gs before) (hl : laidOutB P = true) (hrt : f.resultTypes = #[b]) (hu : P.underlying b = some .bool) (hv : s.vars = [])
    (hr : ∀ t ∈ f.params.toList, P.readableRec t = true ∧ t < P.types.size) (e1 : (s.fn H (ds ++ gs)).results = [.lit (.bool true)]) (e2 : (s.fn H (ds ++ gs)).args = ds) (e3 : (s.fn H (ds ++ gs)).vars = [])
    (hb : Below W.heap.size W W') : s.post enc P f false true false false W args (.bool true) W' := by
  have hW' := hW
  obtain ⟨p, q, hA, hV, rfl, hfz, hnd⟩ := hW
  have hV' : DataW.TrodVars enc P W (fun _ => true) [] gs q := by rw [← hv]; exact hV
  obtain ⟨rfl, rfl⟩ := trodVars_none hV'
  refine ⟨ds, [], p ++ [], [], p, [], hW', ?_, ?_, ?_, hb.frame _, fun h => by cases h⟩
  · rw [e1, hrt]; exact trodAll_mk1 (shut_bool hu true)
  · rw [e2]; exact trodAll_below hl hb hr hA (fun x hx => by have := hW'.lt x (by simpa using hx); simpa using this)
  · rw [e3, hv]; rfl

theorem cells_byte : Tryd.prog.cellsOf 5 = 1 := by kernel_rfl

theorem bytes_holds {H : Type} {enc : TypeId × Value → H} {W : World} {fuel : Nat} {a0 : Option Addr} {len cap : Nat} {d : DataW H} {p : List MemPlace}
    (h : DataW.trod enc Tryd.prog W 0 (fun _ => true) true fuel 22 [.slice a0 len cap] = some (d, p)) :
    ∃ ss : List UInt8, Holds W a0 len (ss.map bv) ∧ len ≤ cap ∧ (a0 = none → cap = 0) := by
  rcases open_ints Tryd.underlying22 Tryd.underlying5 cells_byte h with ⟨hcs, hx⟩ | ⟨a, len', cap', ss, hcs, _, hl, hm, hz, hx, hcell, hws⟩
  · simp at hcs
    obtain ⟨rfl, rfl, rfl⟩ := hcs
    exact ⟨[], ⟨rfl, fun h => by omega⟩, Nat.le_refl _, fun _ => rfl⟩
  · simp at hcs
    obtain ⟨rfl, rfl, rfl⟩ := hcs
    simp only [if_true] at hz
    refine ⟨(ss.take len).map fun z => UInt8.ofNat z.toNat, ⟨by rw [List.length_map, List.length_map, List.length_take]; omega, fun hn => ⟨a, rfl, fun j v hj => ?_⟩⟩, hl, fun h => by cases h⟩
    rw [List.getElem?_map, List.getElem?_map, List.getElem?_take] at hj
    split at hj
    · rename_i hjl
      rw [hcell j (by omega)]
      rw [List.getElem?_eq_getElem (by omega)] at hj
      rw [List.getD_eq_getElem?_getD, List.getElem?_eq_getElem (by omega)]
      have hw := hws ss[j] (List.getElem_mem _)
      have hr : 0 ≤ ss[j] ∧ ss[j] ≤ 255 := by simpa [Lit.wf, IntKind.min, IntKind.max, IntKind.signed, IntKind.bits] using hw
      simp only [Option.map_some, Option.some.injEq, Option.getD_some] at hj ⊢
      rw [← hj]
      simp only [bv, UInt8.toNat_ofNat', Value.int.injEq, true_and]
      omega
    · simp at hj

set_option maxRecDepth 100000 in
theorem slice_lt {W : World} {base : Nat} {t e : TypeId} {a : Option Addr} {n c : Nat} (ht : Tryd.prog.underlying t = some (.slice e)) (h : Value.okWide Tryd.prog W .any base t (.slice a n c)) : ∀ k, vblk (.slice a n c) = some k → k < W.heap.size := by
  intro k hk
  cases a with
  | none => cases hk
  | some a =>
    obtain rfl : a.block = k := by simpa [vblk] using hk
    simp only [Value.okWide, ht, Cell.okWide, Cell.ok] at h
    obtain ⟨_, _, _, _, row, cells, hs, _⟩ := h
    unfold World.shape? at hs
    rcases Nat.lt_or_ge a.block W.heap.size with hl | hl
    · exact hl
    · simp [Array.getElem?_eq_none hl] at hs

set_option maxRecDepth 100000 in
theorem slice_cap {W : World} {base : Nat} {t e : TypeId} {a : Option Addr} {n c : Nat} (ht : Tryd.prog.underlying t = some (.slice e)) (h : Value.okWide Tryd.prog W .any base t (.slice a n c)) : n ≤ 9223372036854775807 := by
  cases a with
  | none =>
    simp only [Value.okWide, ht, Cell.okWide] at h
    cases n with
    | zero => omega
    | succ n => simp [Cell.ok, ht] at h
  | some a =>
    simp only [Value.okWide, ht, Cell.okWide, Cell.ok] at h
    have h1 := h.1
    have h2 := h.2.1
    simp [IntKind.max, IntKind.signed, IntKind.bits] at h2
    omega

/-- A slice of bytes that came in. -/
theorem bytes_in {H : Type} {enc : TypeId × Value → H} {W : World} {fuel : Nat} {a0 : Option Addr} {len cap : Nat} {d : DataW H} {p : List MemPlace}
    (h : DataW.trod enc Tryd.prog W 0 (fun _ => true) true fuel 22 [.slice a0 len cap] = some (d, p)) : ∃ l : List UInt8, BytesV W (.slice a0 len cap) l := by
  obtain ⟨l, H, lc, z⟩ := bytes_holds h
  exact ⟨l, RowV.mk H lc z⟩
end Go.Proofs.YtdinkdmkbfbjbaaDoor
namespace Go.Proofs.YtdinkdmkbfbjbaaDoor
open Go.ChangeShapes Go.WideShapes Go.ChangeAt Go.RowKit Go.Lib

def laidL : List (String × DataW Unit) := [("math/bits.deBruijn32tab", Rows.laid_math_bits_deBruijn32tab), ("math/bits.deBruijn64tab", Rows.laid_math_bits_deBruijn64tab), ("internal/strconv.uint64pow10", Rows.laid_internal_strconv_uint64pow10), ("strconv.ErrRange", Rows.laid_strconv_ErrRange), ("strconv.ErrSyntax", Rows.laid_strconv_ErrSyntax)]

theorem star : "*" ++ "errors.errorString" = "*errors.errorString" := by decide
theorem rowPtr (u : TypeId) (h : Tryd.prog.typeName? 3 u = some "*errors.errorString") : u = 156 :=
  typeName_ptr_named (nm := "errors.errorString") (by rw [star]; kernel_rfl) (by kernel_rfl) (by decide) u (by rw [star]; exact h)

theorem powTab : (Rows.laid_internal_strconv_uint64pow10 : DataW Unit) = Lib.tabData .u64 Lib.pow10Tab := by kernel_rfl

/-- From the list to what the walks ask. -/
theorem vs_of_laid {W : World} (hL : laidMet Tryd.prog laidL W) : Vs W := by
  have h2 := hL.tail.tail
  have h3 := h2.tail
  have h4 := h3.tail
  refine ⟨?_, ?_, ?_⟩
  · rw [powTab] at h2
    exact Lib.tabIs_of_head (g := 3) (t := 149) (e := 34) (n := 20) (by kernel_rfl) (by kernel_rfl) (by kernel_rfl) (by kernel_rfl) (by kernel_rfl) (by kernel_rfl) h2
  · obtain ⟨a, s, h, _⟩ := laid_sentinel (g := 1) h4 (by kernel_rfl) (by kernel_rfl) Tryd.underlying77 rowPtr Tryd.underlying156 Tryd.underlying158 rfl rfl Tryd.underlying9 (by kernel_rfl) (by kernel_rfl)
    exact ⟨_, _, h⟩
  · obtain ⟨a, s, h, _⟩ := laid_sentinel (g := 2) h3 (by kernel_rfl) (by kernel_rfl) Tryd.underlying77 rowPtr Tryd.underlying156 Tryd.underlying158 rfl rfl Tryd.underlying9 (by kernel_rfl) (by kernel_rfl)
    exact ⟨_, _, h⟩

def litCells (d : DataW Unit) : Array Value := match d with
  | .agg l => (l.map fun x => match x with | .lit (.int k n) => Value.int k n | _ => .nilIface).toArray
  | _ => #[]

noncomputable abbrev N0 : Nat := (World.settled Tryd.prog default).heap.size
/-- The settled world, with the tables and the two errors laid. -/
noncomputable def laidWorld (os : Os) : World :=
  let N := (World.settled Tryd.prog os).heap.size
  let w0 := World.holding Tryd.prog os ⟨#[.cells #[.string ⟨#[118, 97, 108, 117, 101, 32, 111, 117, 116, 32, 111, 102, 32, 114, 97, 110, 103, 101]⟩] 158, .cells #[.string ⟨#[105, 110, 118, 97, 108, 105, 100, 32, 115, 121, 110, 116, 97, 120]⟩] 158], #[], []⟩
  let put (h : Array Obj) (g : Nat) (cs : Array Value) : Array Obj := h.modify g fun
    | .cells _ t frozen => .cells cs t frozen
    | o => o
  let h0 := put (put w0.heap 1 #[.iface 156 (.pointer (some ⟨N + 1, 0, none⟩))]) 2 #[.iface 156 (.pointer (some ⟨N, 0, none⟩))]
  let h1 := put (put (put h0 3 (litCells Rows.laid_internal_strconv_uint64pow10)) 4 (litCells Rows.laid_math_bits_deBruijn32tab)) 5 (litCells Rows.laid_math_bits_deBruijn64tab)
  { w0 with heap := h1 }

set_option maxRecDepth 1000000 in
theorem laidWorld_met (os : Os) (args : Array Value) : laidMet Tryd.prog laidL ((laidWorld os).forCall (fun _ _ => 0) ⟨#[], args, []⟩).memory :=
  (LaidIn.of_run [4, 5, 3, 2, N0, 1, N0 + 1] 10 (by kernel_rfl) (by kernel_rfl) (by kernel_rfl) (by kernel_rfl)).met
end Go.Proofs.YtdinkdmkbfbjbaaDoor
namespace Go.Proofs.YtdinkdmkbfbjbaaDoor
open Go.ChangeShapes Go.WideShapes Go.ChangeAt Go.RowKit

theorem mx_of_shaped {W : World} (h : W.ShapedOpen Tryd.prog) : Mx W := Tryd.laysM145.s1_3 W h

/-- As the library's wrap for a row that lists variables; the contract is handed the world's shape too. -/
theorem wrapShaped {H : Type} {enc : TypeId × Value → H} {C : Checked} {os : Os} {f : FuncId} {fn : Func} {s : ChangeSpec} {conds : List PathCond} {apart fresh handsOn again : Bool} {X : World → Array Value → Prop}
    (hX : ∀ (w w' : World) (args : Array Value), w.heap = w'.heap → X w args → X w' args)
    (own : ownKnob C.prog.godebug = none) (started : os.Started) (noInit : C.prog.inits.idxOf? f = none) (hfn : C.prog.funcs[f]? = some fn)
    (witness : ∃ (w : World) (tape : Tape) (i : Input), w.os = os ∧ (w.forCall tape i).Shaped C.prog ∧ i.vars = [] ∧ Input.okWide C.prog (w.forCall tape i) .any w.heap.size f i ∧
      ((s.pre enc C.prog fn conds apart (w.forCall tape i).memory i.args ∧ X (w.forCall tape i).memory i.args) ∧ sizedMet enc C.prog fn (OpenSpec.ofChange s) apart (w.forCall tape i).memory i.args) ∧ ({} : Assume).holds C.prog (lone (Frame.enter C.prog f i.args .normal) [] (w.forCall tape i)))
    (contract : ∀ (W : World) (base : Nat) (args : Array Value) (ds gs : List (DataW H)) (before : List MemPlace),
      (∀ (j : Nat) t v, fn.params[j]? = some t → args[j]? = some v → Value.okWide C.prog W .any base t v) →
      DataW.Whole enc C.prog fn.params.toList s.vars apart W args.toList ds gs before → X W args → W.ShapedOpen C.prog →
      Calls C.prog f args W fun e W' => ∃ v, e = .returned v ∧ s.post enc C.prog fn apart fresh handsOn again W args v W') :
    ReturnsInHanded {} C os f .any (fun w args => (s.pre enc C.prog fn conds apart w args ∧ X w args) ∧ sizedMet enc C.prog fn (OpenSpec.ofChange s) apart w args) (s.post enc C.prog fn apart fresh handsOn again) := by
  refine returnsInHanded_of_calls own started noInit witness fun w tape i _ hsh _ hok hpre _ => ?_
  obtain ⟨_, _, _, fn', hfn', _, _, _, _, hval⟩ := hok
  obtain rfl : fn' = fn := Option.some.inj (hfn'.symm.trans hfn)
  obtain ⟨⟨⟨ds, gs, before, hw, _⟩, hx⟩, _⟩ := hpre
  refine (contract (w.forCall tape i) w.heap.size i.args ds gs before hval (DataW.Whole.of_heap (w := (w.forCall tape i).memory) (w' := w.forCall tape i) (by rfl) hw) (hX _ _ _ (by rfl) hx) hsh).mono ?_
  rintro e W' ⟨v, rfl, hp⟩
  exact ChangeSpec.post_blind hp
end Go.Proofs.YtdinkdmkbfbjbaaDoor
namespace Go.Proofs.YtdinkdmkbfbjbaaDoor
open Go.ChangeShapes Go.WideShapes Go.ChangeAt Go.RowKit Go.Deep Go.Joins

theorem list5 {α : Type} {cs : List α} (h : cs.length = 5) : ∃ c0 c1 c2 c3 c4, cs = [c0, c1, c2, c3, c4] := by
  match cs, h with
  | [c0, c1, c2, c3, c4], _ => exact ⟨c0, c1, c2, c3, c4, rfl⟩

theorem struct5 {H : Type} {enc : TypeId × Value → H} {P : Program} {w : World} {base : Nat} {spare : Nat → Bool} {held : Bool} {t : TypeId} {f0 f1 f2 f3 f4 : Field} {fuel : Nat} {cs : List Value} {x : DataW H × List MemPlace}
    (ht : P.underlying t = some (.struct #[f0, f1, f2, f3, f4])) (hone : oneCellFields P #[f0, f1, f2, f3, f4] = true) (hC : P.cellsOf t = 5) (h : DataW.trod enc P w base spare held fuel t cs = some x) :
    ∃ c0 c1 c2 c3 c4 n y0 y1 y2 y3 y4, cs = [c0, c1, c2, c3, c4] ∧ DataW.trod enc P w base spare held n f0.type [c0] = some y0 ∧ DataW.trod enc P w base spare held n f1.type [c1] = some y1 ∧
      DataW.trod enc P w base spare held n f2.type [c2] = some y2 ∧ DataW.trod enc P w base spare held n f3.type [c3] = some y3 ∧ DataW.trod enc P w base spare held n f4.type [c4] = some y4 := by
  obtain ⟨xs, n, _, _, hl, hlen, hf⟩ := DataW.trod_struct ht h
  obtain ⟨c0, c1, c2, c3, c4, rfl⟩ := list5 (hl.trans hC)
  obtain ⟨y0, y1, y2, y3, y4, rfl⟩ := list5 hlen
  obtain ⟨o0, k0⟩ := hone_of hone 0 f0 rfl
  obtain ⟨o1, k1⟩ := hone_of hone 1 f1 rfl
  obtain ⟨o2, k2⟩ := hone_of hone 2 f2 rfl
  obtain ⟨o3, k3⟩ := hone_of hone 3 f3 rfl
  obtain ⟨o4, k4⟩ := hone_of hone 4 f4 rfl
  have h0 := hf 0 f0 rfl
  have h1 := hf 1 f1 rfl
  have h2 := hf 2 f2 rfl
  have h3 := hf 3 f3 rfl
  have h4 := hf 4 f4 rfl
  rw [o0, k0] at h0
  rw [o1, k1] at h1
  rw [o2, k2] at h2
  rw [o3, k3] at h3
  rw [o4, k4] at h4
  exact ⟨c0, c1, c2, c3, c4, n, y0, y1, y2, y3, y4, rfl, h0, h1, h2, h3, h4⟩

theorem cells_deed : Tryd.prog.cellsOf 36 = 5 := by kernel_rfl

theorem i64_wf {x : Int} (h : (Lit.int .i64 x).wf = true) : -9223372036854775808 ≤ x ∧ x ≤ 9223372036854775807 := by simpa [Lit.wf, IntKind.min, IntKind.max, IntKind.signed, IntKind.bits] using h
theorem u64_wf {x : Int} (h : (Lit.int .u64 x).wf = true) : 0 ≤ x ∧ x ≤ 18446744073709551615 := by simpa [Lit.wf, IntKind.min, IntKind.max, IntKind.signed, IntKind.bits] using h

set_option maxRecDepth 100000 in
theorem deed_in {H : Type} {enc : TypeId × Value → H} {W : World} {fuel : Nat} {cs : List Value} {x : DataW H × List MemPlace} (h : DataW.trod enc Tryd.prog W 0 (fun _ => true) true fuel 36 cs = some x) :
    ∃ (d : Deed) (ap : Option Addr) (cap : Nat), cs = [.int .i64 d.kind, .int .i64 d.a, .int .i64 d.n, .int .u64 d.draw, .slice ap d.b.length cap] ∧ d.Nums ∧ BytesV W (.slice ap d.b.length cap) d.b := by
  obtain ⟨c0, c1, c2, c3, c4, n, y0, y1, y2, y3, y4, rfl, h0, h1, h2, h3, h4⟩ := struct5 Tryd.underlying36 (by kernel_rfl) cells_deed h
  obtain ⟨k, e0, _, w0⟩ := DataW.trod_int Tryd.underlying33 h0
  obtain ⟨a, e1, _, w1⟩ := DataW.trod_int Tryd.underlying3 h1
  obtain ⟨m, e2, _, w2⟩ := DataW.trod_int Tryd.underlying3 h2
  obtain ⟨u, e3, _, w3⟩ := DataW.trod_int Tryd.underlying34 h3
  obtain ⟨ap, len, cap, e4⟩ := slice_form Tryd.underlying22 h4
  obtain ⟨z4, p4⟩ := y4
  cases e0; cases e1; cases e2; cases e3; cases e4
  obtain ⟨b, hb⟩ := bytes_in h4
  have hlen : b.length = len := by have := (RowV.holds hb).2.1; rwa [List.length_map] at this
  subst hlen
  have hu := u64_wf w3
  obtain ⟨u, rfl⟩ := Int.eq_ofNat_of_zero_le hu.1
  exact ⟨⟨k, a, m, u, b⟩, ap, cap, rfl, ⟨i64_wf w0, i64_wf w1, i64_wf w2, by have := hu.2; simp only; omega⟩, hb⟩

set_option maxRecDepth 100000 in
/-- A deed by value. -/
theorem deedV_in {H : Type} {enc : TypeId × Value → H} {W : World} {b0 : Nat} {v : Value} {d : DataW H} {p : List MemPlace} (hv : Value.okWide Tryd.prog W .any b0 36 v)
    (h : DataW.Trod enc Tryd.prog W 0 (fun _ => true) true 36 v d p) : ∃ D : Deed, DeedV W v D ∧ D.Nums := by
  obtain ⟨cs, rfl, hsz⟩ := okWide_struct Tryd.underlying36 hv
  obtain ⟨fuel, hf⟩ := h
  obtain ⟨D, ap, cap, e, hn, hb⟩ := deed_in hf
  have e2 : cs = #[.int .i64 D.kind, .int .i64 D.a, .int .i64 D.n, .int .u64 D.draw, .slice ap D.b.length cap] := by
    have e3 : cs.toList = [.int .i64 D.kind, .int .i64 D.a, .int .i64 D.n, .int .u64 D.draw, .slice ap D.b.length cap] := e
    cases cs; simp_all
  exact ⟨D, ⟨_, by rw [e2], hb⟩, hn⟩

instance : Inhabited (Deed × Value) := ⟨(⟨0, 0, 0, 0, []⟩, .slice none 0 0)⟩

set_option maxRecDepth 100000 in
/-- A row of deeds. -/
theorem deeds_in {H : Type} {enc : TypeId × Value → H} {W : World} {fuel : Nat} {a0 : Option Addr} {len cap : Nat} {d : DataW H} {p : List MemPlace}
    (h : DataW.trod enc Tryd.prog W 0 (fun _ => true) true fuel 53 [.slice a0 len cap] = some (d, p)) :
    ∃ ps : List (Deed × Value), DeedsV W (.slice a0 len cap) ps ∧ BsV W ps ∧ (∀ p ∈ ps, p.1.Nums ∧ ∃ ap c, p.2 = .slice ap p.1.b.length c) ∧ ps.length ≤ 9223372036854775807 := by
  rcases open_slice Tryd.underlying53 h with ⟨hcs, _⟩ | ⟨a, len', cap', m, n, D, Pl, hcs, _, hl, hm, hmm, hx, hall⟩
  · simp at hcs
    obtain ⟨rfl, rfl, rfl⟩ := hcs
    exact ⟨[], ⟨none, 0, rfl, ⟨rfl, fun h => absurd h (by decide)⟩, Nat.le_refl _, fun _ => rfl⟩, fun p hp => (by cases hp), fun p hp => (by cases hp), by simp⟩
  · simp at hcs
    obtain ⟨rfl, rfl, rfl⟩ := hcs
    simp only [if_true] at hmm
    rw [cells_deed] at hall
    have hch : ∀ i, i < len → ∃ q : Deed × Value, W.cells? 0 (a.add (i * 5)) 5 = some (dCells q) ∧ BytesV W q.2 q.1.b ∧ q.1.Nums ∧ ∃ ap c, q.2 = .slice ap q.1.b.length c := fun i hi => by
      obtain ⟨cs', h1, h2⟩ := hall i (by omega)
      obtain ⟨E, ap, c, e, hn, hb⟩ := deed_in h2
      subst e
      exact ⟨(E, .slice ap E.b.length c), h1, hb, hn, ap, c, rfl⟩
    have hq : ∃ ps : List (Deed × Value), ps.length = len ∧ ∀ i q, ps[i]? = some q → W.cells? 0 (a.add (i * 5)) 5 = some (dCells q) ∧ BytesV W q.2 q.1.b ∧ q.1.Nums ∧ ∃ ap c, q.2 = .slice ap q.1.b.length c := by
      obtain ⟨f, hf⟩ := choose_lt (α := Deed × Value) (p := fun i q => W.cells? 0 (a.add (i * 5)) 5 = some (dCells q) ∧ BytesV W q.2 q.1.b ∧ q.1.Nums ∧ ∃ ap c, q.2 = .slice ap q.1.b.length c) hch
      refine ⟨(List.range len).map f, by simp, fun i q hi => ?_⟩
      rw [List.getElem?_map] at hi
      rcases Nat.lt_or_ge i len with hil | hil
      · rw [List.getElem?_range hil] at hi
        simp only [Option.map_some, Option.some.injEq] at hi
        subst hi
        exact hf i hil
      · rw [List.getElem?_eq_none (by simpa using hil)] at hi; cases hi
    obtain ⟨ps, hpl, hps⟩ := hq
    refine ⟨ps, ⟨some a, cap, by rw [hpl], ⟨dCells_len ps, fun _ => ⟨a, rfl, fun j u hj => ?_⟩⟩, by omega, fun h => by cases h⟩, fun q hq => ?_, fun q hq => ?_, by unfold maxLen at hm; omega⟩
    · have hjl := (List.getElem?_eq_some_iff.1 hj).1
      rw [dCells_len] at hjl
      have hi : j / 5 < ps.length := by omega
      have hat := dCells_at ps (j / 5) (j % 5) ps[j / 5] (List.getElem?_eq_getElem hi) (Nat.mod_lt _ (by decide))
      rw [show j / 5 * 5 + j % 5 = j by omega, hj] at hat
      have hc := (hps (j / 5) ps[j / 5] (List.getElem?_eq_getElem hi)).1
      obtain ⟨_, _, hcell⟩ := World.cells?_some hc
      have := hcell (j % 5) (Nat.mod_lt _ (by decide))
      rw [add_add, show j / 5 * 5 + j % 5 = j by omega] at this
      rw [this]
      simpa using hat.symm
    · obtain ⟨i, hi⟩ := List.mem_iff_getElem?.1 hq
      exact (hps i q hi).2.1
    · obtain ⟨i, hi⟩ := List.mem_iff_getElem?.1 hq
      exact (hps i q hi).2.2
end Go.Proofs.YtdinkdmkbfbjbaaDoor
namespace Go.Proofs.YtdinkdmkbfbjbaaDoor
open Go.ChangeShapes Go.WideShapes Go.ChangeAt Go.RowKit Go.Deep Go.Joins

theorem list3 {α : Type} {cs : List α} (h : cs.length = 3) : ∃ c0 c1 c2, cs = [c0, c1, c2] := by
  match cs, h with
  | [c0, c1, c2], _ => exact ⟨c0, c1, c2, rfl⟩
theorem list2 {α : Type} {cs : List α} (h : cs.length = 2) : ∃ c0 c1, cs = [c0, c1] := by
  match cs, h with
  | [c0, c1], _ => exact ⟨c0, c1, rfl⟩

theorem cells_conf : Tryd.prog.cellsOf 52 = 5 := by kernel_rfl
theorem cells_node : Tryd.prog.cellsOf 50 = 4 := by kernel_rfl
theorem cells_follow : Tryd.prog.cellsOf 48 = 2 := by kernel_rfl
theorem cells_int : Tryd.prog.cellsOf 3 = 1 := by kernel_rfl

set_option maxRecDepth 100000 in
theorem conf_in {H : Type} {enc : TypeId × Value → H} {W : World} {fuel : Nat} {cs : List Value} {x : DataW H × List MemPlace} (h : DataW.trod enc Tryd.prog W 0 (fun _ => true) true fuel 52 cs = some x) :
    ∃ c : Conf, cs = [.int .i64 c.c0, .int .i64 c.c1, .int .i64 c.c2, .int .i64 c.c3, .int .i64 c.c4] ∧ c.Fits := by
  obtain ⟨xs, n, _, _, hl, hlen, hf⟩ := DataW.trod_struct Tryd.underlying52 h
  obtain ⟨e0, e1, e2, e3, e4, rfl⟩ := list5 (hl.trans cells_conf)
  obtain ⟨y0, y1, rfl⟩ := list2 hlen
  have h0 := hf 0 _ rfl
  have h1 := hf 1 _ rfl
  simp [cells_int, cells_node] at h0 h1
  obtain ⟨a0, q0, _, w0⟩ := DataW.trod_int Tryd.underlying3 h0
  obtain ⟨xs2, n2, _, _, hl2, hlen2, hf2⟩ := DataW.trod_struct Tryd.underlying50 h1
  obtain ⟨z0, z1, z2, rfl⟩ := list3 hlen2
  have k0 := hf2 0 _ rfl
  have k1 := hf2 1 _ rfl
  have k2 := hf2 2 _ rfl
  simp [cells_int, cells_follow] at k0 k1 k2
  obtain ⟨a1, q1, _, w1⟩ := DataW.trod_int Tryd.underlying3 k0
  obtain ⟨a4, q4, _, w4⟩ := DataW.trod_int Tryd.underlying3 k2
  obtain ⟨xs3, n3, _, _, hl3, hlen3, hf3⟩ := DataW.trod_struct Tryd.underlying48 k1
  obtain ⟨u0, u1, rfl⟩ := list2 hlen3
  have m0 := hf3 0 _ rfl
  have m1 := hf3 1 _ rfl
  simp [cells_int] at m0 m1
  obtain ⟨a2, q2, _, w2⟩ := DataW.trod_int Tryd.underlying3 m0
  obtain ⟨a3, q3, _, w3⟩ := DataW.trod_int Tryd.underlying3 m1
  simp at q0 q1 q2 q3 q4
  subst q0 q1 q2 q3 q4
  exact ⟨⟨a0, a1, a2, a3, a4⟩, rfl, ⟨i64_wf w0, i64_wf w1, i64_wf w2, i64_wf w3, i64_wf w4⟩⟩

set_option maxRecDepth 100000 in
/-- Settings by value. -/
theorem confV_in {H : Type} {enc : TypeId × Value → H} {W : World} {b0 : Nat} {v : Value} {d : DataW H} {p : List MemPlace} (hv : Value.okWide Tryd.prog W .any b0 52 v)
    (h : DataW.Trod enc Tryd.prog W 0 (fun _ => true) true 52 v d p) : ∃ c : Conf, v = confV c ∧ c.Fits := by
  obtain ⟨cs, rfl, hsz⟩ := okWide_struct Tryd.underlying52 hv
  obtain ⟨fuel, hf⟩ := h
  obtain ⟨c, e, hc⟩ := conf_in hf
  refine ⟨c, ?_, hc⟩
  have e3 : cs.toList = [.int .i64 c.c0, .int .i64 c.c1, .int .i64 c.c2, .int .i64 c.c3, .int .i64 c.c4] := e
  unfold confV
  cases cs; simp_all

theorem nums_in {W : World} {ps : List (Deed × Value)} (hb : BsV W ps) (h : ∀ p ∈ ps, p.1.Nums ∧ ∃ ap c, p.2 = .slice ap p.1.b.length c) : NumsL ps := by
  intro p hp
  obtain ⟨h1, ap, c, e⟩ := h p hp
  refine ⟨h1, ap, c, e, ?_⟩
  have := hb p hp
  rw [e] at this
  obtain ⟨_, _, e2, h2, _⟩ := BytesV.parts this
  cases e2
  exact h2
end Go.Proofs.YtdinkdmkbfbjbaaDoor
