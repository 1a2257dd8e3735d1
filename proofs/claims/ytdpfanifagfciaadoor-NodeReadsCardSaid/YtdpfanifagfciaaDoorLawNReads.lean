/- The walk of the law NodeReads. -/
import Derived.Test.YtdpfanifagfciaaDoorNodeD
import Derived.Test.YtdpfanifagfciaaDoorNodeF
import Derived.Test.YtdpfanifagfciaaDoorNodeG
namespace Go.Proofs.YtdpfanifagfciaaDoor
open Go.RowKit
attribute [local go_sem ↓] Go.wp_at_zero Go.wp_at_succ
def AnyT (u : Value) (_ : Unit) : Prop := ∃ t : ByteArray, u = .string t
/-- An entry of so many chunks, whatever they are. -/
def IsEntU (S : Nat → Prop) (h : Array Obj) (us : List Value) (m : Nat) : Prop := ∃ n d z v, us = [.string n, .bool d, .int .i64 z, v] ∧ SeqIn S 9 AnyT h v (List.replicate m ())
theorem IsEntT.u {S : Nat → Prop} {h : Array Obj} {us : List Value} {x : EntR} (k : IsEntT S h us x) : IsEntU S h us x.c.length := by
  obtain ⟨v, e, ⟨a, cap, e2, hl, hel⟩, _⟩ := k
  refine ⟨x.n, x.d, x.z, v, e, a, cap, by rw [e2, List.length_replicate], by rw [List.length_replicate]; exact hl, fun i hi => ?_⟩
  rw [List.length_replicate] at hi
  obtain ⟨b, off, u, e1, e3, e4, e5, e6⟩ := hel i hi
  exact ⟨b, off, u, e1, e3, e4, e5, x.c[i], e6⟩
/-- Entries that may be written, whatever they are: how many chunks each has. -/
abbrev ShpN (N : Nat) (w : World) (v : Value) (ms : List Nat) : Prop := RecIn (N ≤ ·) 33 4 (IsEntU (N ≤ ·) w.heap) w.heap v ms
theorem RecIn.map {α β : Type} {k : Nat} {S : Nat → Prop} {E : TypeId} {R : List Value → α → Prop} {R' : List Value → β → Prop} {h : Array Obj} {v : Value} {l : List α} (s : RecIn S E k R h v l) (f : α → β) (hr : ∀ u x, R u x → R' u (f x)) : RecIn S E k R' h v (l.map f) := by
  obtain ⟨a, cap, e, hl, hel⟩ := s
  refine ⟨a, cap, by rw [e, List.length_map], by rw [List.length_map]; exact hl, fun i hi => ?_⟩
  rw [List.length_map] at hi
  obtain ⟨b, off, us, e1, e2, e3, e4, e5⟩ := hel i hi
  exact ⟨b, off, us, e1, e2, e3, e4, by rw [List.getElem_map]; exact hr _ _ e5⟩
theorem ShpN.of {N : Nat} {w : World} {v : Value} {l : List EntR} (h : OwnRec N 33 4 (IsEntT (N ≤ ·) w.heap) w v l) (hl : l.length ≤ 9223372036854775807) : ShpN N w v (l.map (·.c.length)) :=
  (OwnRec.seq h hl).map _ fun _ _ x => x.u
theorem IsEntU.chg {S T : Nat → Prop} {w w' : World} {us : List Value} {m : Nat} (h : IsEntU S w.heap us m) (c : Chg T w w') (hs : ∀ b, b < w.heap.size → S b → typH w.heap b = some 9 → ¬ T b) : IsEntU S w'.heap us m :=
  let ⟨n, d, z, v, e, t⟩ := h; ⟨n, d, z, v, e, t.chg c hs fun _ _ _ x => x⟩
theorem ShpN.keeps {N : Nat} {w w' : World} {v : Value} {ms : List Nat} (s : ShpN N w v ms) (k : Keeps w w') : ShpN N w' v ms :=
  RecIn.chg (T := fun _ => False) s (Kept.any k) (fun _ _ _ _ x => x) fun _ _ _ r => r.chg (T := fun _ => False) (Kept.any k) fun _ _ _ _ x => x
theorem ShpN.ent {N n c : Nat} {w : World} {p : Option Addr} {ms : List Nat} (s : ShpN N w (.slice p n c) ms) {i : Nat} (hi : i < ms.length) : ∃ B O nm pc qc, p = some ⟨B, O, none⟩ ∧ n = ms.length ∧ w.cell? ⟨B, O + i * 4, none⟩ = some (.string nm) ∧ w.frozen? ⟨B, O + i * 4, none⟩ = false ∧
    w.cell? ⟨B, O + i * 4 + 3, none⟩ = some (.slice pc ms[i] qc) ∧ ms[i] ≤ 9223372036854775807 ∧ N ≤ B ∧ ∀ k, k < ms[i] → ∃ b o t, pc = some ⟨b, o, none⟩ ∧ w.cell? ⟨b, o + k, none⟩ = some (.string t) ∧ w.frozen? ⟨b, o + k, none⟩ = false ∧ N ≤ b ∧ typH w.heap b = some 9 := by
  obtain ⟨a, cap, e, hl, hel⟩ := s
  obtain ⟨B, O, us, e1, ⟨e2, e3⟩, e4, e5, nm, d, z, v, rfl, pc, qc, rfl, f2, f3⟩ := hel i hi
  injection e with x1 x2 _
  have y0 := e5 0 (by simp)
  have y3 := e5 3 (by simp)
  refine ⟨B, O, nm, pc, qc, x1.trans e1, x2, by rw [cell_of]; exact y0.2, by rw [froz_of]; exact y0.1, by rw [cell_of]; simpa using y3.2, by simpa using f2, e2, fun k hk => ?_⟩
  obtain ⟨b, o, u, g1, g2, g3, g4, t, g5⟩ := f3 k (by rw [List.length_replicate]; exact hk)
  subst g5
  exact ⟨b, o, t, g1, by rw [cell_of]; exact g4, by rw [froz_of]; exact g3, g2.1, g2.2⟩
theorem ShpN.setChunk {N b i : Nat} {w : World} {v u0 : Value} {ms : List Nat} (s : ShpN N w v ms) (hb : typH w.heap b = some 9) (hc : w.cell? ⟨b, i, none⟩ = some u0) (t : ByteArray) : ShpN N (w.setCell ⟨b, i, none⟩ (.string t)) v ms := by
  rw [cell_of] at hc
  refine RecIn.chg s (chg_set w b i (.string t)) (fun q _ _ hq e => by subst e; rw [hb] at hq; exact absurd hq (by decide)) fun u m _ r => ?_
  obtain ⟨n, d, z, v, e, a, cap, e2, hl, hel⟩ := r
  refine ⟨n, d, z, v, e, a, cap, e2, hl, fun k hk => ?_⟩
  obtain ⟨b', o, u', g1, g2, g3, g4, t', g5⟩ := hel k hk
  refine ⟨b', o, if b = b' ∧ i = o + k then .string t else u', g1, ⟨g2.1, by rw [typH_set]; exact g2.2⟩, by rw [frozH_set]; exact g3, ?_, ?_⟩
  · rw [cellH_set _ _ _ _ _ _ _ hc]
    split
    · rfl
    · exact g4
  · split
    · exact ⟨t, rfl⟩
    · exact ⟨t', g5⟩
theorem ShpN.setName {N B O n c : Nat} {w : World} {ms : List Nat} (s : ShpN N w (.slice (some ⟨B, O, none⟩) n c) ms) {i : Nat} (hi : i < ms.length) (t : ByteArray) : ShpN N (w.setCell ⟨B, O + i * 4, none⟩ (.string t)) (.slice (some ⟨B, O, none⟩) n c) ms := by
  obtain ⟨a, cap, e, hl, hel⟩ := s
  injection e with x1 x2 x3
  subst x1
  obtain ⟨B', O', us0, e1, ⟨_, ht⟩, h4, h5, nm0, d0, z0, v0, rfl, _⟩ := hel i hi
  simp only [Option.some.injEq, Addr.mk.injEq, and_true] at e1
  obtain ⟨rfl, rfl⟩ := e1
  have hc := (h5 0 (by simp)).2
  rw [Nat.add_zero] at hc
  refine ⟨_, cap, by rw [x2, x3], hl, fun j hj => ?_⟩
  obtain ⟨B', O', us, e1, ⟨e2, e3⟩, e4, e5, nm, d, z, v, rfl, hsq⟩ := hel j hj
  simp only [Option.some.injEq, Addr.mk.injEq, and_true] at e1
  obtain ⟨rfl, rfl⟩ := e1
  have hsq' : SeqIn (N ≤ ·) 9 AnyT (w.setCell ⟨B, O + i * 4, none⟩ (.string t)).heap v (List.replicate ms[j] ()) := SeqIn.chg hsq (chg_set w B (O + i * 4) (.string t)) (fun q _ _ hq e => by subst e; rw [ht] at hq; exact absurd hq (by decide)) fun _ _ _ x => x
  refine ⟨B, O, [.string (if i = j then t else nm), .bool d, .int .i64 z, v], rfl, ⟨e2, by rw [typH_set]; exact e3⟩, rfl, fun q hq => ⟨by rw [frozH_set]; exact (e5 q hq).1, ?_⟩, _, d, z, v, rfl, hsq'⟩
  have h6 := (e5 q hq).2
  rw [cellH_set _ _ _ _ _ _ _ hc]
  match q, hq, h6 with
  | 0, _, h6 =>
    by_cases e : i = j
    · subst e; rw [if_pos ⟨rfl, rfl⟩]; simp
    · rw [if_neg (fun x => e (by have := x.2; omega))]
      simpa [e] using h6
  | 1, _, h6 => rw [if_neg (fun x => by have := x.2; omega)]; exact h6
  | 2, _, h6 => rw [if_neg (fun x => by have := x.2; omega)]; exact h6
  | 3, _, h6 => rw [if_neg (fun x => by have := x.2; omega)]; exact h6
theorem keeps_set {w w' : World} {b i : Nat} (h : Keeps w w') (hb : w.heap.size ≤ b) (v : Value) : Keeps w (w'.setCell ⟨b, i, none⟩ v) :=
  (Chg.setCell (T := fun _ => False) (Kept.any h) (p := ⟨b, i, none⟩) (fun x => absurd x (by show ¬ b < _; omega)) v).keeps fun _ _ x => x
set_option maxRecDepth 100000 in
set_option maxHeartbeats 8000000 in
theorem nodereads_any (s : ByteArray) (w : World) : Calls Tryd.prog 3 #[.string s] w fun e w' => e = .returned (.bool true) ∧ Keeps w w' := by
  by_cases hbig : 60000 < s.size
  · have g1 : decide ((60000 : Int) < (s.size : Int)) = true := decide_eq_true (by omega)
    go_enter Tryd.func3, Tryd.ntmps3
    go_wp2_with fail
    go_ret
    exact ⟨rfl, keeps_refl _⟩
  have g1 : decide ((60000 : Int) < (s.size : Int)) = false := decide_eq_false (by omega)
  go_enter Tryd.func3, Tryd.ntmps3
  go_wp2_with fail
  refine Calls.mono (rread19_any s _ (by omega)) ?_
  rintro e w2 ⟨hk2, hr⟩
  obtain ⟨vw, cw, lw, rfl, hW, hN, hcode⟩ : ∃ (vw : Value) (cw : Int) (lw : List EntR), e = .returned (.tuple #[vw, .int .i64 cw]) ∧ EntsAt w2.heap vw lw ∧ NumE lw ∧ ((readP s.data.toList = none ∧ cw = 4 ∧ lw = []) ∨ (readP s.data.toList = some lw ∧ cw = 0)) := by
    rcases hr with ⟨a, rfl⟩ | ⟨l, v, a, rfl, b⟩
    · exact ⟨_, _, [], rfl, RecAt.nil _ _ _, ⟨by simp, fun x hx => absurd hx (by simp)⟩, .inl ⟨a, rfl, rfl⟩⟩
    · have hm := (readP_some.1 a).1
      exact ⟨_, _, l, rfl, b, ⟨by have := (mayL_all hm).1; omega, fun x hx => by have := (mayE_nums (mayL_mem hm hx)).2.2.1; omega⟩, .inr ⟨a, rfl⟩⟩
  have HRD : Hid (∀ wr, Keeps w2 wr → Calls Tryd.prog 15 #[.string s] wr fun e w' => ∃ vl, e = .returned (.tuple #[vl, .int .i64 cw]) ∧ Keeps wr w' ∧ EntsAt w'.heap vl lw ∧ ShpN wr.heap.size w' vl (lw.map (·.c.length))) := fun wr _ => (nread_any s wr (by omega)).mono fun e w' ⟨hk, h⟩ => by
    rcases hcode with ⟨a, rfl, rfl⟩ | ⟨a, rfl⟩
    · rcases h with ⟨_, rfl⟩ | ⟨l, v, b, _⟩
      · exact ⟨_, rfl, hk, RecAt.nil _ _ _, RecIn.nil _ _ _ _ _⟩
      · rw [a] at b; cases b
    · rcases h with ⟨b, _⟩ | ⟨l, v, b, rfl, c⟩
      · rw [a] at b; cases b
      · rw [a] at b
        obtain rfl := Option.some.inj b
        have h1 := hN.1
        exact ⟨v, rfl, hk, (OwnRec.seq c (by omega)).at_.imp (fun _ _ _ e => e) (fun _ _ _ x => IsEntT.at_ x), ShpN.of c (by omega)⟩
  have HW := Lib.hid hW
  have HN := Lib.hid hN
  have HK2 := Lib.hid hk2
  have hl6 := hN.1
  have HSM : Hid (sameE lw lw = true) := decide_eq_true rfl
  have HML : Hid ((lw.map (·.c.length)).length = lw.length) := List.length_map _
  generalize lw.map (·.c.length) = ms at *
  clear hcode hr hW hN hk2 hbig g1
  go_wp2_with fail
  go_loopw [5] (fun i wr => ∃ j : Nat, j ≤ 2 ∧ i = .int .i64 j ∧ Hid (Keeps w2 wr)) (fun i _ => 2 - (intOf i).toNat)
  case atStart => exact ⟨0, by omega, rfl, keeps_refl _⟩
  case round =>
    obtain ⟨j, hj, rfl, hK⟩ := hrel
    obtain ⟨w3, rfl⟩ : ∃ wy : World, wy = wr := ⟨_, rfl⟩
    by_cases hj2 : j < 2
    · go_wp2_with fail
      refine Calls.mono (HRD.out _ hK.out) ?_
      rintro e w4 ⟨vl, rfl, hk4, hl4, hs4⟩
      obtain ⟨p, q, rfl⟩ := rec_shape hl4
      have HK4 := Lib.hid (hK.out.trans hk4)
      have HS4 := Lib.hid hs4
      have HL4 := Lib.hid hl4
      have HNZ : Hid (w2.heap.size ≤ w3.heap.size) := hK.out.size
      clear hk4 hl4 hs4 hK
      go_wp2_with fail
      refine Calls.mono (taken_any _ lw _ HL4.out HN.out) ?_
      rintro e w5 ⟨v5, rfl, h5, hk5⟩
      have HK5 := Lib.hid (HK4.out.trans hk5)
      have HS5 := Lib.hid (HS4.out.keeps hk5)
      have H5 := Lib.hid h5
      clear hk5 h5 HL4
      go_wp2_with fail
      refine Calls.mono (rsame19_any _ _ lw lw _ H5.out (EntsAt.keeps HW.out HK5.out)) ?_
      rintro e w6 ⟨rfl, hk6⟩
      rw [HSM.out]
      have HK6 := Lib.hid (HK5.out.trans hk6)
      have HS6 := Lib.hid (HS5.out.keeps hk6)
      clear hk6 H5 HS5 HS4 HK5 HK4
      have qc : (cw == cw) = true := by simp
      go_wp2_with fail
      clear qc
      go_loopw [8] (fun i wr => ∃ a : Nat, a ≤ lw.length ∧ i = .int .i64 a ∧ Hid (Keeps w2 wr) ∧ Hid (ShpN w3.heap.size wr (.slice p lw.length q) ms)) (fun i _ => lw.length - (intOf i).toNat)
      case atStart => exact ⟨0, by omega, rfl, HK6, HS6⟩
      case round =>
        obtain ⟨a, ha, rfl, hKa, hSa⟩ := hrel
        obtain ⟨w7, rfl⟩ : ∃ wy : World, wy = wr := ⟨_, rfl⟩
        clear HK6 HS6
        by_cases hal : a < lw.length
        · have ham : a < ms.length := by rw [HML.out]; exact hal
          have i1 : (a : Int) < (lw.length : Int) := by omega
          have i0 : (0 : Int) ≤ (a : Int) := by omega
          obtain ⟨B, O, _, _, _, rfl, _, _, _, _, hm63, _⟩ := ShpN.ent hSa.out ham
          obtain ⟨m, hm⟩ : ∃ m, ms[a] = m := ⟨_, rfl⟩
          have HM := Lib.hid hm
          rw [hm] at hm63
          clear hm
          go_wp2_with fail
          go_loopw [9] (fun i wr => ∃ b : Nat, b ≤ m ∧ i = .int .i64 b ∧ Hid (Keeps w2 wr) ∧ Hid (ShpN w3.heap.size wr (.slice (some ⟨B, O, none⟩) lw.length q) ms)) (fun i _ => m - (intOf i).toNat)
          case atStart => exact ⟨0, by omega, rfl, hKa, hSa⟩
          case round =>
            obtain ⟨b, hb, rfl, hKb, hSb⟩ := hrel
            obtain ⟨w8, rfl⟩ : ∃ wy : World, wy = wr := ⟨_, rfl⟩
            clear hKa hSa
            obtain ⟨B', O', nm, pc, qc, e1, _, c0, f0, c3, _, hB, hel⟩ := ShpN.ent hSb.out ham
            simp only [Option.some.injEq, Addr.mk.injEq, and_true] at e1
            obtain ⟨rfl, rfl⟩ := e1
            rw [HM.out] at c3 hel
            by_cases hbm : b < m
            · have j1 : (b : Int) < (m : Int) := by omega
              have j0 : (0 : Int) ≤ (b : Int) := by omega
              obtain ⟨bb, oo, t, rfl, d0, d1, d2, d3⟩ := hel b hbm
              have HS9 := Lib.hid (hSb.out.setChunk d3 d0 ⟨#[63]⟩)
              have HK9 := Lib.hid (keeps_set (i := oo + b) hKb.out (Nat.le_trans HNZ.out d2) (.string ⟨#[63]⟩))
              clear hel c0 f0 d2 d3
              go_wp2_with fail
              refine ⟨?_, by simp [intOf]; omega⟩
              first | exact ⟨b + 1, by omega, by go_num, HK9, HS9⟩ | ((repeat apply Exists.intro); exact ⟨⟨b + 1, by omega, by go_num, HK9, HS9⟩, rfl⟩)
            · obtain rfl : b = m := by omega
              have HS9 := Lib.hid (hSb.out.setName ham ⟨#[63]⟩)
              have HK9 := Lib.hid (keeps_set (i := O + a * 4) hKb.out (Nat.le_trans HNZ.out hB) (.string ⟨#[63]⟩))
              clear hel hB
              go_wp2_with fail
              refine ⟨?_, by simp [intOf]; omega⟩
              first | exact ⟨a + 1, by omega, by go_num, HK9, HS9⟩ | ((repeat apply Exists.intro); exact ⟨⟨a + 1, by omega, by go_num, HK9, HS9⟩, rfl⟩)
        · obtain rfl : a = lw.length := by omega
          go_wp2_with fail
          refine ⟨?_, by simp [intOf]; omega⟩
          first | exact ⟨j + 1, by omega, by go_num, hKa⟩ | ((repeat apply Exists.intro); exact ⟨⟨j + 1, by omega, by go_num, hKa⟩, rfl⟩)
    · obtain rfl : j = 2 := by omega
      have HKF := Lib.hid (HK2.out.trans hK.out)
      go_wp2_with fail
      go_ret
      exact ⟨rfl, HKF.out⟩
end Go.Proofs.YtdpfanifagfciaaDoor
