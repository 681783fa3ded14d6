/- A reader of requests: the words of a line. -/
import Derived.Test.YtdfkdbdhaaiadaaDoorRe7
namespace Go.Proofs.YtdfkdbdhaaiadaaDoor
open Go.RowKit
attribute [local go_sem] fold_part fold_some fold_some' partAt_zero
attribute [local go_sem ↓] Go.wp_at_zero Go.wp_at_succ

theorem strInfo : (Tryd.prog.info? 9).map (fun i => (i.zero, i.size, i.bytes)) = some (some (.string ⟨#[]⟩), 1, 16) := by kernel_rfl

def strV (l : Bs) : Value := .string ⟨l.toArray⟩

/-- A row of texts that the call itself has made. -/
def OwnS (w : World) (base : Nat) (v : Value) (L : List Bs) : Prop := w.ownsRow base 9 1 v L.length (L.map strV)

theorem OwnS.nil (w : World) (base : Nat) : OwnS w base (.slice none 0 0) [] := ⟨rfl, .inl ⟨rfl, rfl⟩⟩
theorem ownsRow_kept2 {w w' : World} {base : Nat} {e : TypeId} {v : Value} {n : Nat} {xs : List Value} (h : w.ownsRow base e 1 v n xs) (hk : Kept NoBlock w w') : w'.ownsRow base e 1 v n xs := by
  refine ⟨h.1, ?_⟩
  rcases h.2 with h' | ⟨g, cap, cur, e1, e2, e3, rest⟩
  · exact .inl h'
  · exact .inr ⟨g, cap, cur, e1, e2, hk.heap e3 (fun h => h), rest⟩
theorem OwnS.kept2 {w w' : World} {base : Nat} {v : Value} {L : List Bs} (h : OwnS w base v L) (hk : Kept NoBlock w w') : OwnS w' base v L := ownsRow_kept2 h hk

/-- What an append leaves of a row of texts. -/
structure AppS (base : Nat) (v : Value) (L : List Bs) (w : World) (v' : Value) (w' : World) : Prop where
  own : OwnS w' base v' L
  grow : w.grownBy w' v.ownBlock

theorem AppS.kept {base : Nat} {v : Value} {L L' : List Bs} {w0 w : World} {v' : Value} {w' : World} (h : AppS base v L' w v' w') (hown : OwnS w base v L) (hb : w0.heap.size ≤ base) {S : Nat → Prop} (hk : Kept S w0 w) : Kept S w0 w' :=
  hk.grown h.grow (fun k e hlt => by have := (hown.lt k e).1; omega)

theorem strV_one (L : List Bs) : ∀ u ∈ L.map strV, u.oneCell' = true := by
  intro u hu
  obtain ⟨s, _, rfl⟩ := List.mem_map.1 hu
  rfl

theorem wpList_appS {w : World} {ops : Array Oper} {rest : List Oper} {o : Oper} {a : Act} {Q : Exit → Act → World → Prop} (hgd : o.guard = none) (s x : Operand)
    (ho : o.op = .call { callee := .builtin .append, args := #[s, x], argTypes := #[48, 48] })
    (base : Nat) (v : Value) (L : List Bs) (hs : a.eval s = v) (hown : OwnS w base v L) (b : Nat) (p : Bs) (hx : a.eval x = .slice (some ⟨b, 0, none⟩) 1 1) (hu : w.heap[b]? = some (.cells #[strV p] 9 (0, 0))) (hlen : L.length ≤ 100000000) (hbase : base ≤ w.heap.size)
    (h : ∀ v' w', AppS base v (L ++ [p]) w v' w' → wpList Tryd.prog ops Q rest (a.put o.dst v') w') : wpList Tryd.prog ops Q (o :: rest) a w := by
  obtain ⟨i0, hi, hz0, hz1, hz2⟩ := info_parts strInfo
  have hH : Holds w (some ⟨b, 0, none⟩) 1 [strV p] := ⟨rfl, fun _ => ⟨_, rfl, fun j v hj => World.news_of_block (cs := #[strV p]) hu j v hj⟩⟩
  refine wpList_append_holds hgd s x 48 ho base 9 i0 (.string ⟨#[]⟩) 16 Tryd.underlying48 hi hz0 hz1 hz2 rfl v L.length (L.map strV) hs hown (some ⟨b, 0, none⟩) 1 1 [strV p] hx hH (fun h => by cases h) (strV_one [p]) (by unfold maxLen; omega) (by omega) hbase ?_
  intro v' w' hr hg
  refine h v' w' ⟨?_, hg⟩
  unfold OwnS
  rw [List.length_append, List.map_append]
  exact hr

theorem skipB_cases (s : Bs) : skipB s = [] ∨ ∃ c r, skipB s = c :: r ∧ blank c = false ∧ r.length < s.length := by
  induction s with
  | nil => exact .inl rfl
  | cons c r ih =>
    rw [skipB]
    cases hb : blank c with
    | true =>
      simp only [if_true]
      rcases ih with h | ⟨c', r', h1, h2, h3⟩
      · exact .inl h
      · exact .inr ⟨c', r', h1, h2, by simp; omega⟩
    | false => exact .inr ⟨c, r, by simp, hb, by simp⟩

theorem wordA_len (k : Nat) : ∀ (s xs p t : Bs), s.length ≤ k → wordA xs s = some (p, t) → p.length + t.length ≤ xs.length + s.length ∧ t.length ≤ s.length ∧ (∀ c r, s = c :: r → blank c = false → t.length < s.length) := by
  induction k with
  | zero =>
    intro s xs p t hs h
    have : s = [] := List.eq_nil_of_length_eq_zero (by omega)
    subst this
    rw [wordA_nil] at h
    injection h with h; injection h with h1 h2; subst h1; subst h2
    exact ⟨Nat.le_refl _, Nat.le_refl _, fun c r h => by cases h⟩
  | succ k ih =>
    intro s xs p t hs h
    cases s with
    | nil =>
      rw [wordA_nil] at h
      injection h with h; injection h with h1 h2; subst h1; subst h2
      exact ⟨Nat.le_refl _, Nat.le_refl _, fun c r h => by cases h⟩
    | cons c r =>
      simp only [List.length_cons] at hs ⊢
      cases hb : blank c with
      | true =>
        rw [wordA_blank hb] at h
        injection h with h; injection h with h1 h2; subst h1; subst h2
        refine ⟨by simp, by simp, fun c' r' e hb' => ?_⟩
        cases e; rw [hb] at hb'; cases hb'
      | false =>
        by_cases hq : c = 34 ∨ c = 39
        · rw [wordA_quo hb hq] at h
          split at h
          · cases h
          · rename_i p' t' hqd
            split at h
            · cases h
            · injection h with h; injection h with h1 h2; subst h1; subst h2
              have := quotedA_len r.length c r [] p' t' (Nat.le_refl _) hqd
              rw [List.length_append]
              simp only [List.length_nil] at this
              refine ⟨by omega, by omega, fun _ _ _ _ => by omega⟩
        · rw [wordA_plain hb (fun e => hq (.inl e)) (fun e => hq (.inr e))] at h
          have := ih r (xs ++ [c]) p t (by omega) h
          rw [List.length_append, List.length_singleton] at this
          exact ⟨by omega, by omega, fun _ _ _ _ => by omega⟩

theorem wordsA_nil {L : List Bs} {s : Bs} (h : skipB s = []) : wordsA L s = some L := by rw [wordsA, h]
theorem wordsA_none {L : List Bs} {s : Bs} {c : UInt8} {r : Bs} (h : skipB s = c :: r) (hw : wordA [] (c :: r) = none) : wordsA L s = none := by rw [wordsA, h]; simp only; rw [hw]
theorem wordsA_some {L : List Bs} {s : Bs} {c : UInt8} {r p t : Bs} (h : skipB s = c :: r) (hw : wordA [] (c :: r) = some (p, t)) : wordsA L s = wordsA (L ++ [p]) t := by
  have h2 : blank c = false ∧ r.length < s.length := by
    rcases skipB_cases s with h' | ⟨c', r', h1, h2, h3⟩
    · rw [h] at h'; cases h'
    · rw [h] at h1; cases h1; exact ⟨h2, h3⟩
  have h3 := (wordA_len _ _ _ _ _ (Nat.le_refl _) hw).2.2 c r rfl h2.1
  rw [wordsA, h]
  simp only
  rw [hw]
  simp only
  rw [if_pos (by simp only [List.length_cons] at h3; omega)]
theorem skipB_blank {c : UInt8} {r : Bs} (h : blank c = true) : skipB (c :: r) = skipB r := by rw [skipB, if_pos h]
theorem skipB_not {c : UInt8} {r : Bs} (h : blank c = false) : skipB (c :: r) = c :: r := by rw [skipB, if_neg (by simp [h])]

/-- What a call leaves that hands back a row of texts of its own, or panics. -/
def StrsEnd (M : Option (List Bs)) (f : Bs) (w : World) (e : Ending) (w' : World) : Prop :=
  Kept NoBlock w w' ∧ match M with
  | none => e = .panicked (faultE f)
  | some L => ∃ v, e = .returned v ∧ OwnS w' w.heap.size v L

set_option maxRecDepth 100000 in
set_option maxHeartbeats 6400000 in
theorem pwords (v : Value) (B : Option Nat) (s : Bs) (w : World) (hV : Vs w) (h : BytesV w v s) (hB : vblk v = B) (hBw : ∀ b, B = some b → b < w.heap.size) (hs : s.length ≤ 100000000) :
    Calls Tryd.prog 44 #[v] w (StrsEnd (wordsA [] s) fQuo w) := by
  have hv0 := h
  generalize hM0 : wordsA [] s = M
  obtain ⟨ap0, cap0, rfl, _, _⟩ := h.parts
  clear h
  go_enter Tryd.func44, Tryd.ntmps44
  go_wp2
  go_loopw [0, 3] (fun vs vl wr => ∃ (l : Bs) (L : List Bs), BytesV w vs l ∧ vblk vs = B ∧ OwnS wr w.heap.size vl L ∧ wordsA L l = M ∧ L.length + l.length ≤ 100000000 ∧ Kept NoBlock w wr) (fun vs _ _ => lenOf vs)
  case atStart => exact ⟨s, [], hv0, hB, OwnS.nil _ _, hM0, by simpa using hs, Kept.refl _ _⟩
  case round =>
    obtain ⟨l, L, hvs, hvB, hown, hM, hlen, hk⟩ := hrel
    clear hs hB hv0 hM0
    have HV := Lib.hid hvs
    have HB := Lib.hid hvB
    have HO := Lib.hid hown
    have HM := Lib.hid hM
    have HL := Lib.hid hlen
    have HK := Lib.hid hk
    have hkr := hk.size
    obtain ⟨ap, cap, rfl, hcap, _⟩ := hvs.parts
    have hl6 : l.length ≤ 100000000 := by omega
    clear hvs hvB hown hM hlen hk
    go_wp2
    obtain ⟨wo, hwo⟩ : ∃ wo : World, wo = wr := ⟨_, rfl⟩
    subst hwo
    go_loop [0] (fun vs => ∃ l2 : Bs, BytesV w vs l2 ∧ vblk vs = B ∧ skipB l2 = skipB l ∧ l2.length ≤ l.length) (fun vs => lenOf vs)
    case atStart => exact ⟨l, HV.out, HB.out, rfl, Nat.le_refl _⟩
    case round =>
      obtain ⟨l2, hv2, hB2, hs2, hl2⟩ := hrel
      have HV2 := Lib.hid hv2
      have HB2 := Lib.hid hB2
      have HS2 := Lib.hid hs2
      have hvr := hv2.keptNo HK.out
      cases l2 with
      | nil =>
        obtain ⟨ap2, cap2, rfl, _, _⟩ := hvr.parts
        obtain rfl : some L = M := by rw [← HM.out, wordsA_nil (by rw [← HS2.out]; rfl)]
        clear hv2 hB2 hs2 hvr hV hBw HV HB HM HL HV2 HB2 HS2
        simp only [List.length_nil] at *
        go_wp2
        go_ret
        exact ⟨HK.out, _, rfl, HO.out⟩
      | cons c r =>
        obtain ⟨ad, cap2, rfl, hcap2⟩ := hvr.first
        have c0 := hvr.at0
        have hpb := fun W => pblank c W
        cases hbl : blank c with
        | true =>
          rw [hbl] at hpb
          have HS3 := Lib.hid (show skipB r = skipB l by rw [← HS2.out, skipB_blank hbl])
          have HL2 := Lib.hid hl2
          clear hv2 hB2 hs2 hvr hV hBw hbl hl2 HV HB HM HS2
          simp only [List.length_cons] at *
          generalize hn : r.length = n at *
          have HN := Lib.hid hn
          clear hn
          have hb2 : (1 : Int) ≤ (n : Int) + 1 := by omega
          have hb3 : (n : Int) + 1 ≤ (cap2 : Int) := by omega
          go_wp2_with (go_at_call 55; refine (hpb _).mono ?_; rintro e w' ⟨rfl, rfl⟩)
          go_round
          case rel => exact ⟨r, HV2.out.tail 1 (by omega), partAt_blk.trans HB2.out, HS3.out, by have h8 := HL2.out; have h9 := HN.out; omega⟩
          case measure => simp only [lenOf]; omega
        | false =>
          rw [hbl] at hpb
          have hsk : skipB l = c :: r := by rw [← HS2.out, skipB_not hbl]
          have hcall := pword (.slice (some ad) (r.length + 1) cap2) B (c :: r) wo (hV.below HK.out.toB) hvr HB2.out (fun b e => Nat.lt_of_lt_of_le (hBw b e) hkr) (by omega)
          have hwl := fun p t => wordA_len (c :: r).length (c :: r) [] p t (Nat.le_refl _)
          have hMM : ∀ p t, wordA [] (c :: r) = some (p, t) → wordsA (L ++ [p]) t = M := fun p t e => by rw [← HM.out, wordsA_some hsk e]
          have hMN : wordA [] (c :: r) = none → none = M := fun e => by rw [← HM.out, wordsA_none hsk e]
          have hnb : ∀ p t, wordA [] (c :: r) = some (p, t) → t.length < (c :: r).length := fun p t e => (hwl p t e).2.2 c r rfl hbl
          have HBw := Lib.hid hBw
          generalize wordA [] (c :: r) = Z at *
          have HC := Lib.hid hcall
          have HWL := Lib.hid hwl
          have HMM := Lib.hid hMM
          have HMN := Lib.hid hMN
          have HNB := Lib.hid hnb
          have HL2 := Lib.hid hl2
          clear hv2 hB2 hs2 hvr hV hBw hbl hl2 HV HB HM HS2 hsk hcall hwl hMM hMN hnb HV2 HB2
          have hle : (c :: r).length = r.length + 1 := rfl
          generalize hn : r.length = n at *
          have HN := Lib.hid hn
          have HLE := Lib.hid hle
          clear hle hn
          go_wp2_with (go_at_call 55; refine (hpb _).mono ?_; rintro e w' ⟨rfl, rfl⟩)
          ((with_reducible refine HC.out.mono ?_))
          rintro e w2 ⟨hk2, hend⟩
          have HK2 := Lib.hid (HK.out.trans hk2)
          rcases Z with _ | ⟨p, t⟩
          · obtain rfl : none = M := HMN.out rfl
            obtain rfl : e = .panicked (faultE fQuo) := hend
            exact ⟨rfl, HK2.out, rfl⟩
          · obtain ⟨v2, v3, rfl, hown2, hb4, hblk3⟩ := hend
            have HV3 := Lib.hid (hb4.back HK2.out (fun b e => HBw.out b (by rw [← hblk3]; exact e)))
            have HB3 := Lib.hid hblk3
            have hOS : OwnS w2 w.heap.size u3 L := HO.out.kept2 hk2
            obtain ⟨apv, capv, rfl, _⟩ := ownsRow_form hown2
            have hconv : (convert 22 9 (.slice apv p.length capv)).run Tryd.prog w2 = .ok (.string ⟨p.toArray⟩) w2 :=
              conv_bytes w2 22 9 5 Tryd.underlying22 Tryd.underlying5 Tryd.underlying9 capv (RowV.holds hown2.bytes).1
            have hsz2 : w.heap.size ≤ w2.heap.size := HK2.out.size
            have hbl3 : L.length + t.length + 1 ≤ 100000000 := by
              have h1 := HL.out; have h2 := HL2.out; have h3 := HNB.out p t rfl; have h4 := HN.out
              simp only [List.length_cons] at *
              omega
            have hms : t.length < l.length := by have h3 := HNB.out p t rfl; have h4 := HLE.out; have h5 := HL2.out; omega
            obtain ⟨ap4, cap4, rfl, _, _⟩ := HV3.out.parts
            have hM3 := HMM.out p t rfl
            have HM3 := Lib.hid hM3
            clear hM3 hown2 hb4 hblk3 hk2 HC HMM HMN HNB HWL HBw c0 hpb
            go_wp2_with (at_builtin; refine wpList_appS rfl _ _ rfl w.heap.size u3 L rfl (hOS.kept2 ((Kept.refl _ w2).alloc _)) w2.heap.size p rfl (heap_alloc_new w2 _) (by omega) (by simp; omega) ?_; intro v5 w3 happ; refine Hid.out ?_)
            refine Lib.hid ?_
            have hk3 := happ.kept (hOS.kept2 ((Kept.refl _ w2).alloc _)) (Nat.le_refl _) (HK2.out.alloc _)
            go_wp2
            go_roundw
            case rel => exact ⟨t, L ++ [p], HV3.out, HB3.out, happ.own, HM3.out, by rw [List.length_append, List.length_singleton]; omega, hk3⟩
            case measure => simp only [lenOf]; omega
end Go.Proofs.YtdfkdbdhaaiadaaDoor
