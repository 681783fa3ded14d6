/- The acts of RingRuns and RingPieces lie in memory as they were told. -/
import Derived.Test.YtlaahdjdlekopaaLawr
import Derived.Test.YtlaahdjdlekopaaRr1
import Derived.Lib.SmallJoins
namespace Go.Proofs.Ytlaahdjdlekopaa
open Go.ChangeShapes Go.WideShapes Go.ChangeAt Go.RowKit Go.Joins

theorem cells_op : Try.prog.cellsOf 45 = 4 := by kernel_rfl

theorem cells_four {w : World} {a : Addr} {c0 c1 c2 c3 : Value} (h : w.cells? 0 a 4 = some [c0, c1, c2, c3]) : w.cell? a = some c0 ∧ w.cell? (a.add 1) = some c1 ∧ w.cell? (a.add 2) = some c2 ∧ w.cell? (a.add 3) = some c3 := by
  have h0 : a.add 0 = a := by simp [Addr.add]
  simp only [World.cells?, Nat.zero_le, if_true, show List.range 4 = [0, 1, 2, 3] from rfl, List.mapM_cons, List.mapM_nil, h0] at h
  cases e0 : w.cell? a <;> cases e1 : w.cell? (a.add 1) <;> cases e2 : w.cell? (a.add 2) <;> cases e3 : w.cell? (a.add 3) <;> simp_all

theorem opsR_holds {H : Type} {enc : TypeId × Value → H} {W : World} {fuel : Nat} {a0 : Option Addr} {len cap : Nat} {d : DataW H} {p : List MemPlace}
    (h : DataW.trod enc Try.prog W 0 (fun _ => true) true fuel 39 [.slice a0 len cap] = some (d, p)) : OpsR W a0 len := by
  rcases DataW.trod_slice Try.underlying39 h with ⟨hcs, _⟩ | ⟨a, len', cap', elems, rest, n, _, hcs, hx, hb, hl, hm, hlen, hel, _, _⟩
  · simp at hcs
    obtain ⟨rfl, rfl, rfl⟩ := hcs
    exact fun j hj => by omega
  · simp at hcs
    obtain ⟨rfl, rfl, rfl⟩ := hcs
    intro j hj
    have he := hel j hj
    rw [List.getElem?_eq_getElem (by omega), Option.bind_eq_some_iff] at he
    obtain ⟨cs, hcs, hy⟩ := he
    obtain ⟨y0, y1, y2, y3, m, _, hn4, f0, f1, f2, f3⟩ := trod_struct4 Try.underlying45 hy
    rw [cells_op] at hn4 hcs
    match cs, hn4 with
    | [c0, c1, c2, c3], _ =>
      obtain ⟨k0, k1, k2, k3⟩ := cells_four hcs
      have t3 : Try.prog.cellsOf 3 = 1 := by kernel_rfl
      have t9 : Try.prog.cellsOf 22 = 1 := by kernel_rfl
      have t5 : Try.prog.cellsOf 27 = 1 := by kernel_rfl
      simp only [t3, t9, t5, List.drop_zero, List.drop_succ_cons, List.take_succ_cons, List.take_zero] at f0 f1 f2 f3
      obtain ⟨i0, e0, _⟩ := DataW.trod_int Try.underlying3 f0
      obtain ⟨i2, e2, _⟩ := DataW.trod_int Try.underlying27 f2
      obtain ⟨i3, e3, _⟩ := DataW.trod_int Try.underlying3 f3
      injection e0 with e0; injection e2 with e2; injection e3 with e3
      obtain ⟨bp, m, c, e1⟩ : ∃ bp m c, c1 = .slice bp m c := by
        rcases DataW.trod_slice Try.underlying22 f1 with ⟨hcs, _⟩ | ⟨a, len', cap', _, _, _, _, hcs, _⟩
        · injection hcs with hcs; exact ⟨_, _, _, hcs⟩
        · injection hcs with hcs; exact ⟨_, _, _, hcs⟩
      subst e0; subst e1; subst e2; subst e3
      obtain ⟨l, hl, hlc, hlz⟩ := bytes_holds (a0 := bp) (len := m) (cap := c) (d := y1.1) (p := y1.2) f1
      exact ⟨a, i0, i2, i3, bp, m, c, l.take 500, rfl, ⟨k0, k1, k2, k3⟩, holds_cut hl, hlc, hlz⟩
end Go.Proofs.Ytlaahdjdlekopaa
