/- The walks of solve.Rank and solve.Down. -/
import Derived.Test.YtllfhaocdknejaaDoorDown5
import Derived.Test.YtllfhaocdknejaaDoorSpec5
namespace Go.Proofs.YtllfhaocdknejaaDoor
open Go.RowKit
theorem mat_addr {h : Array Obj} {p : Option Addr} {n q : Nat} {m : List (List UInt8)} (s : MatAt h (.slice p n q) m) (h1 : 0 < m.length) : ∃ b off, p = some ⟨b, off, none⟩ := by
  obtain ⟨a, c, e, _, hel⟩ := s
  injection e with e1 e2 e3
  obtain ⟨b, off, u, e4, _, _⟩ := hel 0 h1
  exact ⟨b, off, e1.trans e4⟩
theorem row0y {w : World} {b off n q : Nat} {m : List (List UInt8)} (s : MatAt w.heap (.slice (some ⟨b, off, none⟩) n q) m) (h1 : 0 < m.length) :
    ∃ a ca, w.cell? ⟨b, off, none⟩ = some (.slice a (m.headD []).length ca) := by
  obtain ⟨a, c, e, _, hel⟩ := s
  injection e with e1 e2 e3
  obtain ⟨b', off', u, e4, e5, e6⟩ := hel 0 h1
  rw [← e1] at e4
  simp only [Option.some.injEq, Addr.mk.injEq] at e4
  obtain ⟨rfl, rfl, _⟩ := e4
  obtain ⟨p, q, rfl⟩ := seq_shape e6
  refine ⟨p, q, ?_⟩
  rw [cell_of]
  have : m.headD [] = m[0] := by cases m with | nil => simp at h1 | cons x xs => rfl
  rw [this]; exact e5
theorem smay_is (va : Value) (m : List (List UInt8)) (w : World) (hm : MatAt w.heap va m) (b : Bool) (h : mayB 255 m = b) : Calls Tryd.prog 50 #[va] w fun e w' => e = .returned (.bool b) ∧ Keeps w w' := by
  have := smay_any va m w hm; rw [h] at this; exact this
/-- Two numbers, all kept. -/
def GiveInt (w : World) (r : Int × Int) (e : Ending) (w' : World) : Prop := e = .returned (.tuple #[.int .i64 r.1, .int .i64 r.2]) ∧ Keeps w w'
theorem own0_any (va : Value) (m : List (List UInt8)) (w : World) (ha : MatAt w.heap va m) (hm : mayB 255 m = true) :
    Calls Tryd.prog 52 #[va, .int .i64 0] w (GiveLies w m.length (colsN m) (LA.at_ m)) := by
  have := sown_any va m 0 w ha hm (by omega)
  rw [Nat.add_zero] at this; exact this
theorem may_cols {t : Nat} {m : List (List UInt8)} (h : mayB t m = true) : 1 ≤ m.length ∧ m.length ≤ t ∧ 1 ≤ colsN m ∧ colsN m ≤ t ∧ LA.Rect m (colsN m) := mayB_iff.1 h
theorem chg_keeps {w w1 w2 : World} (k : Keeps w w1) (c : Chg (fun b => w.heap.size ≤ b) w1 w2) : Keeps w w2 := (k.chg.trans c).keeps fun b hb h => by omega




end Go.Proofs.YtllfhaocdknejaaDoor
/- The walk of solve.Turn. -/
namespace Go.Proofs.YtllfhaocdknejaaDoor
open Go.RowKit

/-- The first k rows are cut from place o on. -/
def Cuts (B : Nat) (h : Array Obj) (g cap L n o k : Nat) (F : Nat → Nat → UInt8) (ρ κ : Nat → Nat) : Prop :=
  B ≤ g ∧ (∃ cur : List Value, h[g]? = some (.cells cur.toArray 39 (0, 0)) ∧ cur.length = cap ∧
    ∀ i, i < L → cur[i]? = some (if i < k then .slice (some ⟨ρ i, o, none⟩) (n - o) (κ i - o) else .slice (some ⟨ρ i, 0, none⟩) n (κ i))) ∧
  (∀ i, i < L → B ≤ ρ i ∧ RowF h (ρ i) n (F i)) ∧ L ≤ cap
theorem Lies.cuts {B g cap L n o : Nat} {F : Nat → Nat → UInt8} {ρ κ : Nat → Nat} {h : Array Obj} (l : Lies B h g cap L n F ρ κ) : Cuts B h g cap L n o 0 F ρ κ := by
  refine ⟨l.1, ?_, l.2.2.1, l.le⟩
  obtain ⟨cur, h1, h2, h3⟩ := l.2.1
  exact ⟨cur, h1, h2, fun i hi => by rw [if_neg (by omega)]; exact h3 i hi⟩
section
variable {B g cap L n o k : Nat} {F : Nat → Nat → UInt8} {ρ κ : Nat → Nat} {w : World}
theorem Cuts.typ (l : Cuts B w.heap g cap L n o k F ρ κ) : typH w.heap g = some 39 := by obtain ⟨_, ⟨cur, h1, _⟩, _⟩ := l; exact typH_of h1
theorem Cuts.cell (l : Cuts B w.heap g cap L n o k F ρ κ) {i : Nat} (hi : i < L) :
    w.cell? ⟨g, i, none⟩ = some (if i < k then .slice (some ⟨ρ i, o, none⟩) (n - o) (κ i - o) else .slice (some ⟨ρ i, 0, none⟩) n (κ i)) ∧ w.frozen? ⟨g, i, none⟩ = false := by
  obtain ⟨_, ⟨cur, h1, h2, h3⟩, _⟩ := l
  refine ⟨by rw [cell_of_row w g i _ _ _ h1]; simpa using h3 i hi, ?_⟩
  unfold World.frozen?; simp only [h1]; simp
theorem Cuts.next (l : Cuts B w.heap g cap L n o k F ρ κ) (hk : k < L) : Cuts B (w.setCell ⟨g, k, none⟩ (.slice (some ⟨ρ k, o, none⟩) (n - o) (κ k - o))).heap g cap L n o (k + 1) F ρ κ := by
  have ht := l.typ
  obtain ⟨l0, ⟨cur, h1, h2, h3⟩, l2, l3⟩ := l
  refine ⟨l0, ⟨cur.set k (.slice (some ⟨ρ k, o, none⟩) (n - o) (κ k - o)), ?_, by simp [h2], fun i hi => ?_⟩, fun i hi => ⟨(l2 i hi).1, (l2 i hi).2.chg (T := fun b => b = g) (Chg.setCell (p := ⟨g, k, none⟩) (T := fun b => b = g) (Chg.refl _ w) (fun _ => rfl) _) (fun e => ?_)⟩, l3⟩
  · unfold World.setCell; simp [Array.getElem?_modify, h1]
  · rw [List.getElem?_set]
    have hkl : k < cur.length := by omega
    by_cases e : k = i
    · subst e; rw [if_pos rfl, if_pos (by omega)]; simp; try omega
    · rw [if_neg e, h3 i hi]
      by_cases e2 : i < k
      · rw [if_pos e2, if_pos (by omega)]
      · rw [if_neg e2, if_neg (by omega)]
  · have := (l2 i hi).2.1
    rw [e, ht] at this; cases this
theorem Cuts.mat {M : List (List UInt8)} (l : Cuts B w.heap g cap M.length n o M.length (LA.at_ M) ρ κ) (hr : LA.Rect M n) (ho : o ≤ n) (hm : M.length ≤ 4096) (hn : n ≤ 4096) :
    MatIn (B ≤ ·) w.heap (.slice (some ⟨g, 0, none⟩) M.length cap) (M.map (List.drop o)) := by
  refine ⟨_, _, by rw [List.length_map], by rw [List.length_map]; omega, fun i hi => ?_⟩
  rw [List.length_map] at hi
  obtain ⟨c1, f1⟩ := l.cell hi
  rw [if_pos hi] at c1
  rw [cell_of] at c1
  rw [froz_of] at f1
  refine ⟨g, 0, _, rfl, ⟨l.1, l.typ⟩, by rw [Nat.zero_add]; exact f1, by rw [Nat.zero_add]; exact c1, ?_⟩
  rw [List.getElem_map]
  have hlen : M[i].length = n := hr _ (List.getElem_mem hi)
  have hld : (M[i].drop o).length = n - o := by rw [List.length_drop, hlen]
  refine ⟨_, _, by rw [hld], by omega, fun j hj => ⟨ρ i, o, .int .u8 ((M[i].drop o)[j].toNat : Int), rfl, ⟨(l.2.2.1 i hi).1, (l.2.2.1 i hi).2.1⟩, ((l.2.2.1 i hi).2.2 (o + j) (by omega)).1, ?_, rfl⟩⟩
  rw [((l.2.2.1 i hi).2.2 (o + j) (by omega)).2]
  have e1 : M.getD i [] = M[i] := by rw [List.getD_eq_getElem?_getD, List.getElem?_eq_getElem hi]; rfl
  show some (Value.int .u8 (((M.getD i []).getD (o + j) 0).toNat : Int)) = _
  rw [e1, List.getD_eq_getElem?_getD, List.getElem?_eq_getElem (by omega)]
  simp
end
theorem cut_tail (r n κ o : Nat) (ho : o < n) (hk : n ≤ κ) (w : World) : (Instr.slice 39 (.slice (some ⟨r, 0, none⟩) n κ) (some (.int .i64 (o : Int))) none none).run Tryd.prog w = .ok (.slice (some ⟨r, o, none⟩) (n - o) (κ - o)) w := by
  rw [run_slice_l (P := Tryd.prog) w 39 (some ⟨r, 0, none⟩) n κ (by kernel_rfl) .i64 o (by omega) (by omega)]
  have hs : (sizeOf (Tryd.prog.elem 39)).run Tryd.prog w = .ok 1 w := by kernel_rfl
  rw [hs]
  simp only [Result.andThen, sliced, Int.toNat_natCast]
  rw [if_neg (by omega)]
  simp [Addr.add]
  omega

/-- The wide matrix while its ones are laid. -/
def wideF (m : LA.Mat) (k : Nat) : Nat → Nat → UInt8 := fun i j => if i < k ∧ j = m.length + i then 1 else LA.at_ m i j
theorem wideF_all {m : LA.Mat} (hr : LA.Rect m m.length) {i j : Nat} (hi : i < m.length) (hj : j < m.length + m.length) : wideF m m.length i j = LA.at_ (wideM m) i j := by
  unfold wideF wideM
  rw [beside_at hr _ hi]
  by_cases e : j < m.length
  · rw [if_neg (by omega), if_pos e]
  · rw [if_neg e, unitRow_at (by omega)]
    unfold oneAt
    by_cases e2 : j = m.length + i
    · rw [if_pos ⟨hi, e2⟩, if_pos (by omega)]
    · rw [if_neg (by omega), if_neg (by omega)]
      exact rect_out hr (by omega)
theorem wideM_rect {m : LA.Mat} (hr : LA.Rect m m.length) : LA.Rect (wideM m) (m.length + m.length) := LA.beside_rect hr _ fun _ _ => unitRow_length _ _
theorem sum64 (a b : Nat) (h : a ≤ 4096) (h' : b ≤ 4096) : IntKind.i64.wrap ((a : Int) + (b : Int)) = (a : Int) + (b : Int) := IntWalk.i64_in _ (by omega)

set_option maxRecDepth 100000 in
set_option maxHeartbeats 8000000 in
theorem turn_any (va : Value) (m : List (List UInt8)) (w : World) (ha : MatAt w.heap va m) : Calls Tryd.prog 38 #[va] w (GiveMat w (turnM m)) := by
  obtain ⟨pa, qa, rfl⟩ := seq_shape ha
  have HA := Lib.hid ha
  clear ha
  cases hm : mayB 255 m with
  | false =>
    have e : Hid (turnM m = ([], 4)) := by show _ = _; unfold turnM; rw [hm]; rfl
    have MA := Lib.hid hm
    clear hm
    go_enter Tryd.func38, Tryd.ntmps38
    go_wp2_with fail
    refine Calls.mono (smay_is _ m _ HA.out _ MA.out) ?_
    rintro e w1 ⟨rfl, hk⟩
    go_wp2
    go_ret2
    rw [e.out]
    exact GiveMat.err hk
  | true =>
    obtain ⟨a1, a2, a3, a4, hR⟩ := may_cols hm
    obtain ⟨b1, o1, ea⟩ := mat_addr HA.out a1
    subst ea
    have MA := Lib.hid hm
    have i1 : (0 : Int) < (m.length : Int) := by omega
    by_cases hsq : m.length = colsN m
    · have hne : ((m.length : Int) != (colsN m : Int)) = false := by rw [bne_eq_false_iff_eq, hsq]
      have HSQ := Lib.hid hsq
      have HRS : Hid (LA.Rect m m.length) := by rw [← hsq] at hR; exact hR
      have HR := Lib.hid hR
      clear hR hm hsq
      go_enter Tryd.func38, Tryd.ntmps38
      go_wp2_with fail
      refine Calls.mono (smay_is _ m _ HA.out _ MA.out) ?_
      rintro e w1 ⟨rfl, hk⟩
      have HA := Lib.hid (HA.out.keeps hk)
      have HK := Lib.hid hk
      obtain ⟨p0, q0, d0⟩ := row0y HA.out a1
      change w1.cell? _ = some (.slice p0 (colsN m) q0) at d0
      clear hk
      go_wp2_with fail
      refine Calls.mono (own0_any _ m _ HA.out MA.out) ?_
      rintro e w2 ⟨g, cap, ρ, κ, rfl, hl, hk⟩
      have HL := Lib.hid hl
      have HA1 := HA
      have HK2 := Lib.hid hk
      clear hl hk d0
      go_wp2_with fail
      refine Calls.mono (down_any w1.heap.size g cap (colsN m) m ρ κ w2 HL.out HR.out a1 a2 a3 (by omega)) ?_
      rintro e w3 ⟨rfl, _, hc⟩
      have hk3 := chg_keeps HK2.out hc
      have HA := Lib.hid (HA1.out.keeps hk3)
      have HK := Lib.hid (HK.out.call hk3 (Nat.le_refl _))
      clear hk3 hc HK2 HL
      by_cases hrk : (LA.dn m (colsN m)).2 < m.length
      · have e : Hid (turnM m = ([], 5)) := by show _ = _; unfold turnM; rw [MA.out, decide_eq_true HSQ.out, if_pos hrk]; rfl
        have hq : decide ((((LA.dn m (colsN m)).2 : Nat) : Int) < (m.length : Int)) = true := decide_eq_true (by omega)
        have hq2 : decide ((LA.dn m (colsN m)).2 < m.length) = true := decide_eq_true hrk
        go_wp2_with fail
        go_ret2
        rw [e.out]
        exact GiveMat.err HK.out
      · have e : Hid (turnM m = (turnOf m, 0)) := by show _ = _; unfold turnM; rw [MA.out, decide_eq_true HSQ.out, if_neg hrk]; rfl
        have hq : decide ((((LA.dn m (colsN m)).2 : Nat) : Int) < (m.length : Int)) = false := decide_eq_false (by omega)
        have hq2 : decide ((LA.dn m (colsN m)).2 < m.length) = false := decide_eq_false hrk
        clear hrk
        go_wp2_with fail
        refine Calls.mono (sown_any _ m m.length w3 HA.out MA.out (by omega)) ?_
        rintro e w4 ⟨g, cap, ρ, κ, rfl, hl, hk⟩
        obtain ⟨N2, hN2⟩ : ∃ N2, N2 = m.length + m.length := ⟨_, rfl⟩
        have hl : Lies w3.heap.size w4.heap g cap m.length N2 (wideF m 0) ρ κ := by
          have h1 : Lies w3.heap.size w4.heap g cap m.length (colsN m + m.length) (LA.at_ m) ρ κ := hl
          rw [← HSQ.out, ← hN2] at h1
          exact h1.congr fun i _ j _ => by unfold wideF; rw [if_neg (by omega)]
        have HL := Lib.hid hl
        have HK4 := Lib.hid hk
        have HN2 := Lib.hid hN2
        have hn2 : N2 ≤ 510 := by omega
        clear hl hk hN2 hq hq2
        go_wp2_with fail
        go_loopw [33] (fun i wr => ∃ k : Nat, k ≤ m.length ∧ i = .int .i64 k ∧ Hid (Lies w3.heap.size wr.heap g cap m.length N2 (wideF m k) ρ κ) ∧ Hid (Chg (fun b => w3.heap.size ≤ b) w4 wr)) (fun i _ => m.length - (intOf i).toNat)
        case atStart => exact ⟨0, by omega, rfl, HL, Chg.refl _ _⟩
        case round =>
          obtain ⟨k, hk, rfl, hLk, hCk⟩ := hrel
          by_cases hkl : k < m.length
          · have k64 : (k : Int) < (m.length : Int) := by omega
            have k0 : (0 : Int) ≤ (k : Int) := by omega
            have hin : k + m.length < N2 := by have := HN2.out; omega
            have j64 : (m.length : Int) + (k : Int) < (N2 : Int) := by omega
            have j0 : (0 : Int) ≤ (m.length : Int) + (k : Int) := by omega
            have hjn : ((m.length : Int) + (k : Int)).toNat = m.length + k := by omega
            obtain ⟨d1, _⟩ := hLk.out.cell hkl
            obtain ⟨f2, d2⟩ := (hLk.out.row hkl).2 (m.length + k) (by omega)
            rw [← cell_of] at d1 d2
            rw [← froz_of] at f2
            have HNX : Hid (Lies w3.heap.size (wr.setCell ⟨ρ k, m.length + k, none⟩ (.int .u8 1)).heap g cap m.length N2 (wideF m (k + 1)) ρ κ) := by
              have h1 := (hLk.out.row hkl).set (j := m.length + k) (by omega) 1
              have h2 := hLk.out.over hkl (w' := wr.setCell ⟨ρ k, m.length + k, none⟩ (.int .u8 ((1 : UInt8).toNat : Int))) (Chg.setCell (p := ⟨ρ k, m.length + k, none⟩) (T := fun b => b = ρ k) (Chg.refl _ wr) (fun _ => rfl) _) h1
              refine h2.congr fun i _ j _ => ?_
              unfold wideF
              by_cases e1 : i = k
              · subst e1
                try dsimp only
                rw [if_pos rfl]
                by_cases e2 : j = m.length + i
                · rw [if_pos e2, if_pos ⟨by omega, e2⟩]
                · rw [if_neg e2, if_neg (fun h => e2 h.2), if_neg (fun h => e2 h.2)]
              · try dsimp only
                rw [if_neg e1]
                by_cases e2 : i < k ∧ j = m.length + i
                · rw [if_pos e2, if_pos ⟨by omega, e2.2⟩]
                · rw [if_neg e2, if_neg (fun h => e2 ⟨by omega, h.2⟩)]
            have hbk := (hLk.out.2.2.1 k hkl).1
            generalize (wideF m k k (m.length + k)) = x at *
            clear hin
            go_wp2_with fail
            exact ⟨⟨k + 1, by omega, by go_num, HNX, Chg.setCell (T := fun b => w3.heap.size ≤ b) hCk.out (fun _ => hbk) _⟩, by simp [intOf]; omega⟩
          · obtain rfl : k = m.length := by omega
            have hlw : (wideM m).length = m.length := beside_length _ _
            have HLW : Hid (Lies w3.heap.size wr.heap g cap (wideM m).length N2 (LA.at_ (wideM m)) ρ κ) := by
              show Lies _ _ _ _ _ _ _ _ _
              rw [hlw]
              exact hLk.out.congr fun i hi j hj => wideF_all HRS.out hi (by have := HN2.out; omega)
            have HRW : Hid (LA.Rect (wideM m) N2) := by rw [HN2.out]; exact wideM_rect HRS.out
            have HDW := Lib.hid (down_any w3.heap.size g cap N2 (wideM m) ρ κ wr HLW.out HRW.out (by omega) (by omega) (by have := HN2.out; omega) (by omega))
            have HD2 : Hid (Calls Tryd.prog 51 #[.slice (some ⟨g, 0, none⟩) m.length cap] wr (Downed w3.heap.size g cap m.length N2 (wideM m) wr)) := by
              have h1 := HDW.out
              rw [hlw] at h1; exact h1
            have HLN : Hid ((LA.dn (wideM m) N2).1.length = m.length) := by show _ = _; rw [dn_len, hlw]
            have HRN : Hid (LA.Rect (LA.dn (wideM m) N2).1 N2) := dn_rect HRW.out _
            have HTO : Hid (turnOf m = (LA.dn (wideM m) N2).1.map (List.drop m.length)) := by show _ = _; unfold turnOf; rw [HN2.out]
            clear hlw
            go_wp2_with fail
            refine Calls.mono HD2.out ?_
            rintro e w5 ⟨rfl, ⟨ρ', κ', hl5⟩, hc5⟩
            have HC5 : Hid (Chg (fun b => w3.heap.size ≤ b) w4 w5) := hCk.out.trans hc5
            have HL5 := Lib.hid hl5
            have HRM : Hid (∀ i, i < m.length → N2 ≤ κ' i) := fun i hi => hl5.room hi
            clear hl5 hc5
            go_wp2_with fail
            go_loopw [49] (fun i wx => ∃ k : Nat, k ≤ m.length ∧ i = .int .i64 k ∧ Hid (Cuts w3.heap.size wx.heap g cap m.length N2 m.length k (LA.at_ (LA.dn (wideM m) N2).1) ρ' κ') ∧ Hid (Chg (fun b => w3.heap.size ≤ b) w4 wx)) (fun i _ => m.length - (intOf i).toNat)
            case atStart => exact ⟨0, by omega, rfl, HL5.out.cuts, HC5⟩
            case round =>
              obtain ⟨k, hk, rfl, hCu, hCk2⟩ := hrel
              by_cases hkl : k < m.length
              · have k64 : (k : Int) < (m.length : Int) := by omega
                have k0 : (0 : Int) ≤ (k : Int) := by omega
                obtain ⟨d1, f1⟩ := hCu.out.cell hkl
                rw [if_neg (by omega)] at d1
                have HNX := Lib.hid (hCu.out.next hkl)
                have hgb := hCu.out.1
                have hct := cut_tail (ρ' k) N2 (κ' k) m.length (by have := HN2.out; omega) (HRM.out k hkl)
                go_wp2_with fail
                exact ⟨⟨k + 1, by omega, by go_num, HNX, Chg.setCell (T := fun b => w3.heap.size ≤ b) hCk2.out (fun _ => hgb) _⟩, by simp [intOf]; omega⟩
              · obtain rfl : k = m.length := by omega
                have HM : Hid (MatIn (w3.heap.size ≤ ·) wr.heap (.slice (some ⟨g, 0, none⟩) m.length cap) (turnOf m)) := by
                  show MatIn _ _ _ _
                  rw [HTO.out]
                  have h1 := hCu.out
                  have h2 := HLN.out
                  rw [← h2] at h1 ⊢
                  have h3 : m.length ≤ N2 := by have := HN2.out; omega
                  exact Cuts.mat (o := (LA.dn (wideM m) N2).1.length) h1 HRN.out (by omega) (by omega) (by omega)
                have HKE : Hid (Keeps w wr) := HK.out.call (chg_keeps HK4.out hCk2.out) (Nat.le_refl _)
                have hsz := HK.out.size
                go_wp2_with fail
                go_ret2
                rw [e.out]
                exact ⟨_, rfl, HM.out.mono fun b hb => Nat.le_trans hsz hb, HKE.out⟩
    · have e : Hid (turnM m = ([], 4)) := by show _ = _; unfold turnM; rw [MA.out, decide_eq_false hsq]; rfl
      have hne : ((m.length : Int) != (colsN m : Int)) = true := by rw [bne_iff_ne]; omega
      clear hR hm hsq
      go_enter Tryd.func38, Tryd.ntmps38
      go_wp2_with fail
      refine Calls.mono (smay_is _ m _ HA.out _ MA.out) ?_
      rintro e w1 ⟨rfl, hk⟩
      have HA := Lib.hid (HA.out.keeps hk)
      obtain ⟨p0, q0, d0⟩ := row0y HA.out a1
      change w1.cell? _ = some (.slice p0 (colsN m) q0) at d0
      go_wp2
      go_ret2
      rw [e.out]
      exact GiveMat.err hk
end Go.Proofs.YtllfhaocdknejaaDoor
/- The walk of solve.Solve. -/
namespace Go.Proofs.YtllfhaocdknejaaDoor
open Go.RowKit
end Go.Proofs.YtllfhaocdknejaaDoor
