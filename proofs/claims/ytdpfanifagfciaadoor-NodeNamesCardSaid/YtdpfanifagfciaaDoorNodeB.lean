/- The walks of law19's given and taken. Printed by gengiv19.py. -/
import Derived.Test.YtdpfanifagfciaaDoorNodeA
import Derived.Test.YtdpfanifagfciaaDoorAppFr
import Derived.BigQuiet
import Derived.Deep.WholeRow
import Derived.Test.YtdpfanifagfciaaDoorRecCut
namespace Go.Proofs.YtdpfanifagfciaaDoor
open Go.RowKit
attribute [local go_sem ↓] Go.wp_at_zero Go.wp_at_succ
theorem elTextK : ElemTyK Tryd.prog 31 9 (.string ByteArray.empty) 1 16 := ⟨Tryd.underlying31, by kernel_rfl, rfl, by decide, by decide⟩
def textsV (l : List ByteArray) : List Value := l.map (.string ·)
theorem textsV_len (l : List ByteArray) : (textsV l).length = l.length := List.length_map _
theorem textsV_cells {w : World} {b off c n : Nat} {l : List ByteArray} (h : SeqAt IsText w.heap (.slice (some ⟨b, off, none⟩) n c) l) : ∀ j (hj : j < (textsV l).length), w.cell? ⟨b, off + j, none⟩ = some (textsV l)[j] := fun j hj => by
  rw [textsV_len] at hj
  obtain ⟨u, h1, h2⟩ := seq_at h hj
  unfold IsText at h2
  rw [h1, h2]; simp [textsV]
theorem own_sliceC {w : World} {base : Nat} {E : TypeId} {v : Value} {k n : Nat} {us : List Value} (h : w.ownsRow base E k v n us) : ∃ p c, v = .slice p n c ∧ n ≤ c := by
  rcases h.2 with ⟨rfl, hn⟩ | ⟨g, cap, cur, rfl, _, _, hc, _⟩
  · exact ⟨none, 0, by rw [hn], by omega⟩
  · exact ⟨_, _, rfl, hc⟩
theorem own_typeT {base : Nat} {E : TypeId} {w : World} {v : Value} {us : List Value} {k n : Nat} (h : w.ownsRow base E k v n us) {b : Nat} {F : TypeId} (hb : typH w.heap b = some F) (hn : F ≠ E) : v.ownBlock ≠ some b := fun e => by
  have := (own_blockK h b e).2.2
  rw [hb] at this
  exact hn (Option.some.inj this)
/-- append of texts onto a slice of no cells and no room: in new memory, or nothing. -/
theorem oper_freshT {w : World} {o : Oper} {a : Act} {K : Act → World → Prop} {Q : Exit → Act → World → Prop} (hgd : o.guard = none) (s x : Operand) (ho : o.op = .call { callee := .builtin .append, args := #[s, x], argTypes := #[31, 31] })
    (g : Nat) (hs : a.eval s = .slice (some ⟨g, 0, none⟩) 0 0) (p : Option Addr) (m c : Nat) (l : List ByteArray) (hx : a.eval x = .slice p m c) (hm : m = l.length) (ht : SeqAt IsText w.heap (.slice p m c) l) (hlen : m ≤ 1000000)
    (h : ∀ v' w', (∃ p3 q3, v' = .slice p3 m q3 ∧ m ≤ q3 ∧ SeqIn (fun b => w.heap.size ≤ b) 9 IsText w'.heap (.slice p3 m q3) l) → Keeps w w' → K (a.put o.dst v') w') : Oper.wp Tryd.prog o a w K Q := by
  subst hm
  rcases Nat.eq_zero_or_pos l.length with h0 | h0
  · have hl := List.length_eq_zero_iff.1 h0
    subst hl
    obtain ⟨i, h2, h3, h4, h5⟩ := info_parts elTextK.hi
    have hr : (Builtin.append_ #[31, 31] o.type #[.slice (some ⟨g, 0, none⟩) 0 0, .slice p 0 c]).run Tryd.prog w = .ok (.slice (some ⟨g, 0, none⟩) 0 0) w := by
      cases p <;> simp [Builtin.append_, run_underlying elTextK.ht, sizeOf, typeInfo, h2, h4, Builtin.lenOf, Builtin.firstCells, loadCells, loadCellsFrom, storeCells]
    unfold Oper.wp execOp
    simp only [ho, resolve, invoke, builtin, Sem.run_bind, Sem.run_pure, Result.andThen_ok, List.map_toArray, List.map_cons, List.map_nil, hs, hx, List.length_nil, hr]
    exact h _ _ ⟨_, _, rfl, Nat.le_refl _, ⟨_, _, rfl, by simp, fun i hi => absurd hi (by simp)⟩⟩ (keeps_refl _)
  · obtain ⟨b, off, c', u, e, _, _⟩ := seq_cell ht h0
    injection e with e1 _ _
    subst e1
    refine oper_fresh elTextK hgd s x ho g hs b off l.length c (textsV l) hx (by rw [textsV_len, Nat.mul_one]) h0 (textsV_cells ht) (by omega) fun v' w' h2 h3 => ?_
    obtain ⟨p3, q3, rfl, hc⟩ := own_sliceC h2
    have hx : OwnSeq w.heap.size 9 IsText w' (.slice p3 l.length q3) l := ⟨textsV l, by rw [textsV_len]; exact h2, textsV_len l, fun i hi hi' => by show _ = _; simp [textsV]⟩
    exact h _ _ ⟨p3, q3, rfl, hc, hx.seq (by omega)⟩ h3
/-- An entry whose texts lie in blocks of texts. -/
def IsEntT (S : Nat → Prop) (h : Array Obj) (us : List Value) (x : EntR) : Prop := ∃ v, us = [.string x.n, .bool x.d, .int .i64 x.z, v] ∧ SeqIn S 9 IsText h v x.c ∧ ∀ a n q, v = .slice a n q → n ≤ q
theorem IsEntT.chg {S T : Nat → Prop} {w w' : World} {us : List Value} {x : EntR} (h : IsEntT S w.heap us x) (c : Chg T w w') (hs : ∀ b, b < w.heap.size → S b → typH w.heap b = some 9 → ¬ T b) : IsEntT S w'.heap us x :=
  let ⟨v, e, t, q⟩ := h; ⟨v, e, t.chg c hs fun _ _ _ x => x, q⟩
theorem IsEntT.mono {S S' : Nat → Prop} {h : Array Obj} {us : List Value} {x : EntR} (k : IsEntT S h us x) (hs : ∀ b, S b → S' b) : IsEntT S' h us x :=
  let ⟨v, e, t, q⟩ := k; ⟨v, e, t.mono hs fun _ _ x => x, q⟩
theorem IsEntT.len {S : Nat → Prop} {h : Array Obj} {us : List Value} {x : EntR} (k : IsEntT S h us x) : us.length = 4 := by obtain ⟨_, rfl, _⟩ := k; rfl
theorem IsEntT.at_ {S : Nat → Prop} {h : Array Obj} {us : List Value} {x : EntR} (k : IsEntT S h us x) : IsEnt h us x := let ⟨v, e, t, q⟩ := k; ⟨v, e, SeqIn.at_ t, q⟩
/-- Not too many. -/
def NumE (l : List EntR) : Prop := l.length ≤ 1000000 ∧ ∀ x ∈ l, x.c.length ≤ 1000000
def givG_I (w wr : World) (x : EntR) (vo : Value) (n : Nat) (xs : List Value) : Nat → (Nat → Value) → World → Prop
  | 0, _, w1 => Keeps wr w1
  | 1, vs, w1 => ∃ (w5 : World) (u : List Value), Keeps wr w5 ∧ w1.ownsRow w.heap.size 33 4 (vs 25) (n + 1) (xs ++ u) ∧ IsEntT (fun b => wr.heap.size ≤ b) w5.heap u x ∧ Chg (fun q => vo.ownBlock = some q) w5 w1
  | _, vs, w1 => ∃ (w5 : World) (u : List Value), Keeps wr w5 ∧ w1.ownsRow w.heap.size 33 4 (vs 26) (n + 1) (xs ++ u) ∧ IsEntT (fun b => wr.heap.size ≤ b) w5.heap u x ∧ Chg (fun q => vo.ownBlock = some q) w5 w1
def givG (b o nn q k N0 : Nat) (pv : Option Addr) (nu qv : Nat) (xn : ByteArray) (xd : Bool) (xz : Int) (xc : List ByteArray) (pc : Option Addr) (qc : Nat) : Nat → Value → World → Prop
  | 16, v, _ => ∃ g, v = .slice (some ⟨g, 0, none⟩) 0 0
  | 22, v, w => ∃ p3 q3, v = .slice p3 xc.length q3 ∧ xc.length ≤ q3 ∧ SeqIn (fun b => N0 ≤ b) 9 IsText w.heap (.slice p3 xc.length q3) xc
  | 23, v, w => ∃ p3 q3, v = .agg #[.string xn, .bool xd, .int .i64 xz, .slice p3 xc.length q3] ∧ xc.length ≤ q3 ∧ SeqIn (fun b => N0 ≤ b) 9 IsText w.heap (.slice p3 xc.length q3) xc
  | 24, v, w => ∃ g p3 q3, v = .slice (some ⟨g, 0, none⟩) 1 1 ∧ N0 ≤ g ∧ BlkAt w g 33 #[.string xn, .bool xd, .int .i64 xz, .slice p3 xc.length q3] ∧ xc.length ≤ q3 ∧ SeqIn (fun b => N0 ≤ b) 9 IsText w.heap (.slice p3 xc.length q3) xc
  | 25, _, _ => True
  | 26, _, _ => True
  | i, v, _ => v = ([.slice pv nu qv, .slice (some ⟨b, o, none⟩) nn q, .int .i64 (k : Int), .pointer (some ⟨b, o + k * 4, none⟩), .pointer (some ⟨b, o + k * 4, none⟩), .string xn, .slice (some ⟨b, o, none⟩) nn q, .int .i64 (k : Int), .pointer (some ⟨b, o + k * 4, none⟩), .pointer (some ⟨b, o + k * 4 + 1, none⟩), .bool xd, .slice (some ⟨b, o, none⟩) nn q, .int .i64 (k : Int), .pointer (some ⟨b, o + k * 4, none⟩), .pointer (some ⟨b, o + k * 4 + 2, none⟩), .int .i64 xz, undef, .slice (some ⟨b, o, none⟩) nn q, .int .i64 (k : Int), .pointer (some ⟨b, o + k * 4, none⟩), .pointer (some ⟨b, o + k * 4 + 3, none⟩), .slice pc xc.length qc, undef, undef, undef, undef, undef] : List Value).getD i undef
theorem givG_chg {b o nn q k N0 : Nat} {pv : Option Addr} {nu qv : Nat} {xn : ByteArray} {xd : Bool} {xz : Int} {xc : List ByteArray} {pc : Option Addr} {qc : Nat} (i : Nat) (v : Value) (w w' : World) (c : Chg (fun b => b < N0) w w') (h : givG b o nn q k N0 pv nu qv xn xd xz xc pc qc i v w) : givG b o nn q k N0 pv nu qv xn xd xz xc pc qc i v w' := by
  match i, h with
  | 0, h => exact h
  | 1, h => exact h
  | 2, h => exact h
  | 3, h => exact h
  | 4, h => exact h
  | 5, h => exact h
  | 6, h => exact h
  | 7, h => exact h
  | 8, h => exact h
  | 9, h => exact h
  | 10, h => exact h
  | 11, h => exact h
  | 12, h => exact h
  | 13, h => exact h
  | 14, h => exact h
  | 15, h => exact h
  | 16, h => exact h
  | 17, h => exact h
  | 18, h => exact h
  | 19, h => exact h
  | 20, h => exact h
  | 21, h => exact h
  | 22, h => exact (let ⟨p3, q3, r1, r2, r3⟩ := h; ⟨p3, q3, r1, r2, r3.chg c (fun b _ hb _ => Nat.not_lt.2 hb) fun _ _ _ x => x⟩)
  | 23, h => exact (let ⟨p3, q3, r1, r2, r3⟩ := h; ⟨p3, q3, r1, r2, r3.chg c (fun b _ hb _ => Nat.not_lt.2 hb) fun _ _ _ x => x⟩)
  | 24, h => exact (let ⟨g, p3, q3, r, hg, gb, r2, r3⟩ := h; ⟨g, p3, q3, r, hg, gb.chg c (Nat.not_lt.2 hg), r2, r3.chg c (fun b _ hb _ => Nat.not_lt.2 hb) fun _ _ _ x => x⟩)
  | 25, h => exact h
  | 26, h => exact h
  | _ + 27, h => exact h
theorem elEntG : ElemTyK Tryd.prog 26 33 (.agg #[.string ByteArray.empty, .bool false, .int .i64 0, .slice none 0 0]) 4 56 := ⟨Tryd.underlying26, by kernel_rfl, rfl, by decide, by decide⟩
set_option maxRecDepth 100000 in
set_option maxHeartbeats 8000000 in
theorem given_cap (v : Value) (l : List EntR) (w : World) (h : EntsAt w.heap v l) (hb : NumE l) : Calls Tryd.prog 21 #[v] w fun e w' => ∃ v', e = .returned v' ∧ EntsAt w'.heap v' l ∧ (∀ a n q, v' = .slice a n q → n ≤ q) ∧ Keeps w w' := by
  obtain ⟨p, q, rfl⟩ := rec_shape h
  obtain ⟨hl6, hc6⟩ := hb
  have HC6 := Lib.hid hc6
  have H := Lib.hid h
  clear h hc6
  go_enter Tryd.func21, Tryd.ntmps21
  go_wp2_with fail
  go_loopw [3, 4] (fun vo i wr => ∃ k : Nat, k ≤ l.length ∧ i = .int .i64 k ∧ Hid (OwnRec w.heap.size 33 4 (IsEntT (fun _ => True) wr.heap) wr vo (l.take k)) ∧ Hid (Keeps w wr)) (fun _ i _ => l.length - (intOf i).toNat)
  case atStart => exact ⟨0, by omega, rfl, OwnRec.nil _ _ _ _ _, keeps_refl _⟩
  case round =>
    obtain ⟨k, hk, rfl, hO, hK⟩ := hrel
    by_cases hlt : k < l.length
    · have hlt64 : (k : Int) < (l.length : Int) := by omega
      have hk0 : (0 : Int) ≤ (k : Int) := by omega
      obtain ⟨us, hu1, hu2, hu3⟩ := hO.out
      obtain ⟨pv, qv, rfl, _⟩ := own_sliceC hu1
      have hul : us.length = k := by rw [hu2, List.length_take]; omega
      have HUO := Lib.hid hu1
      have HL2 := Lib.hid hu2
      have HL3 := Lib.hid hul
      have H3 := Lib.hid hu3
      have HSZ : Hid (w.heap.size ≤ wr.heap.size) := hK.out.size
      have HLT : Hid (∀ b, Value.ownBlock (.slice pv us.length qv) = some b → b < wr.heap.size) := fun b hb => (own_blockK HUO.out b hb).2.1
      clear hu1 hu2 hu3 hul hO
      obtain ⟨b, o, pc, qc, rfl, _, c0, c1, c2, c3, ht, hq⟩ := ent_cell (EntsAt.keeps H.out hK.out) hlt
      have HTK : Hid (l.take (k + 1) = l.take k ++ [eAt l k]) := take_eAt hlt
      have HBD : Hid ((eAt l k).c.length ≤ 1000000) := HC6.out _ (eAt_mem hlt)
      generalize eAt l k = X at *
      obtain ⟨xn, xd, xz, xc⟩ := X
      dsimp only at c0 c1 c2 c3 ht hq HBD
      have K0 := Lib.hid c0
      have K1 := Lib.hid c1
      have K2 := Lib.hid c2
      have K3 := Lib.hid c3
      have HTX := Lib.hid ht
      clear c0 c1 c2 c3 ht hq
      go_wp2_with fail
      refine wp_region_stage [11, 12, 13, 14, 15, 16, 17, 18, 19, 20, 21, 22, 23, 24, 25, 26, 27, 28, 29, 30, 31, 32, 33, 34, 35, 36, 3] [[], [], [], [1, 2], [3], [4], [], [], [6, 7], [8], [9], [], [], [11, 12], [13], [14], [], [], [], [17, 18], [19], [20], [16, 21], [5, 10, 15, 22], [23], [0, 24], [25]] [25, 26] [0, 0, 0, 0, 0, 0, 0, 0, 0, 0, 0, 0, 0, 0, 0, 0, 0, 0, 0, 0, 0, 0, 0, 0, 0, 0, 1] [] (givG b o l.length q k wr.heap.size pv us.length qv xn xd xz xc pc qc) (fun w w' => Chg (fun b => b < wr.heap.size) w w') (givG_I w wr ⟨xn, xd, xz, xc⟩ (.slice pv us.length qv) us.length us.flatten) (by kernel_rfl) (by kernel_rfl) (by kernel_rfl) (by kernel_rfl) (by kernel_rfl) (by kernel_rfl) (by kernel_rfl) ?_ ?_ ?_ ?_ ?_ ?_ ?_
      · exact fun i v w w' c h => givG_chg i v w w' c h
      · exact fun w => Chg.refl _ w
      · exact fun i s vs w h => by cases h
      · refine ⟨?_, ?_, ?_, ?_, ?_, ?_, ?_, ?_, ?_, ?_, ?_, ?_, ?_, ?_, ?_, ?_, ?_, ?_, ?_, ?_, ?_, ?_, ?_, ?_, ?_, ?_, ?_, trivial⟩
        · exact fun g b h => by (cases h)
        · exact fun g b h => by (cases h)
        · exact fun g b h => by (cases h)
        · exact fun g b h => by (cases h)
        · exact fun g b h => by (cases h)
        · exact fun g b h => by (cases h)
        · exact fun g b h => by (cases h)
        · exact fun g b h => by (cases h)
        · exact fun g b h => by (cases h)
        · exact fun g b h => by (cases h)
        · exact fun g b h => by (cases h)
        · exact fun g b h => by (cases h)
        · exact fun g b h => by (cases h)
        · exact fun g b h => by (cases h)
        · exact fun g b h => by (cases h)
        · exact fun g b h => by (cases h)
        · exact fun g b h => by (cases h)
        · exact fun g b h => by (cases h)
        · exact fun g b h => by (cases h)
        · exact fun g b h => by (cases h)
        · exact fun g b h => by (cases h)
        · exact fun g b h => by (cases h)
        · exact fun g b h => by (cases h)
        · exact fun g b h => by (cases h)
        · exact fun g b h => by (cases h)
        · exact fun g b h => by (cases h)
        · exact fun g b h => by (cases h)
      · exact fun _ _ => keeps_refl wr
      · refine ⟨?_, ?_, ?_, ?_, ?_, ?_, ?_, ?_, ?_, ?_, ?_, ?_, ?_, ?_, ?_, ?_, ?_, ?_, ?_, ?_, ?_, ?_, ?_, ?_, ?_, ?_, ?_, trivial⟩
        · intro _ a w1 vs hI ho hn hu K hK
          have e3 : a.tmps[3]? = some (.slice pv us.length qv) := hu 26 (by decide) (by decide)
          clear hn ho hu
          have hI : Keeps wr w1 := hI
          go_simp
          exact hK _ _ (Chg.refl _ _) hI rfl
        · intro _ a w1 vs hI ho hn hu K hK
          have e0 : a.tmps[0]? = some (.slice (some ⟨b, o, none⟩) l.length q) := ho 0 rfl
          clear hn ho hu
          have hI : Keeps wr w1 := hI
          go_simp
          exact hK _ _ (Chg.refl _ _) hI rfl
        · intro _ a w1 vs hI ho hn hu K hK
          have e4 : a.tmps[4]? = some (.int .i64 (k : Int)) := ho 4 rfl
          clear hn ho hu
          have hI : Keeps wr w1 := hI
          go_simp
          exact hK _ _ (Chg.refl _ _) hI rfl
        · intro _ a w1 vs hI ho hn hu K hK
          obtain ⟨e12, g12⟩ : a.tmps[12]? = some (vs 1) ∧ vs 1 = .slice (some ⟨b, o, none⟩) l.length q := hn 1 (by decide)
          rw [g12] at e12
          clear g12
          obtain ⟨e13, g13⟩ : a.tmps[13]? = some (vs 2) ∧ vs 2 = .int .i64 (k : Int) := hn 2 (by decide)
          rw [g13] at e13
          clear g13
          clear hn ho hu
          have hI : Keeps wr w1 := hI
          go_simp
          exact hK _ _ (Chg.refl _ _) hI rfl
        · intro _ a w1 vs hI ho hn hu K hK
          obtain ⟨e14, g14⟩ : a.tmps[14]? = some (vs 3) ∧ vs 3 = .pointer (some ⟨b, o + k * 4, none⟩) := hn 3 (by decide)
          rw [g14] at e14
          clear g14
          clear hn ho hu
          have hI : Keeps wr w1 := hI
          go_simp
          exact hK _ _ (Chg.refl _ _) hI rfl
        · intro _ a w1 vs hI ho hn hu K hK
          obtain ⟨e15, g15⟩ : a.tmps[15]? = some (vs 4) ∧ vs 4 = .pointer (some ⟨b, o + k * 4, none⟩) := hn 4 (by decide)
          rw [g15] at e15
          clear g15
          clear hn ho hu
          have hI : Keeps wr w1 := hI
          have c := keeps_cell hI K0.out
          go_simp
          exact hK _ _ (Chg.refl _ _) hI rfl
        · intro _ a w1 vs hI ho hn hu K hK
          have e0 : a.tmps[0]? = some (.slice (some ⟨b, o, none⟩) l.length q) := ho 0 rfl
          clear hn ho hu
          have hI : Keeps wr w1 := hI
          go_simp
          exact hK _ _ (Chg.refl _ _) hI rfl
        · intro _ a w1 vs hI ho hn hu K hK
          have e4 : a.tmps[4]? = some (.int .i64 (k : Int)) := ho 4 rfl
          clear hn ho hu
          have hI : Keeps wr w1 := hI
          go_simp
          exact hK _ _ (Chg.refl _ _) hI rfl
        · intro _ a w1 vs hI ho hn hu K hK
          obtain ⟨e17, g17⟩ : a.tmps[17]? = some (vs 6) ∧ vs 6 = .slice (some ⟨b, o, none⟩) l.length q := hn 6 (by decide)
          rw [g17] at e17
          clear g17
          obtain ⟨e18, g18⟩ : a.tmps[18]? = some (vs 7) ∧ vs 7 = .int .i64 (k : Int) := hn 7 (by decide)
          rw [g18] at e18
          clear g18
          clear hn ho hu
          have hI : Keeps wr w1 := hI
          go_simp
          exact hK _ _ (Chg.refl _ _) hI rfl
        · intro _ a w1 vs hI ho hn hu K hK
          obtain ⟨e19, g19⟩ : a.tmps[19]? = some (vs 8) ∧ vs 8 = .pointer (some ⟨b, o + k * 4, none⟩) := hn 8 (by decide)
          rw [g19] at e19
          clear g19
          clear hn ho hu
          have hI : Keeps wr w1 := hI
          go_simp
          exact hK _ _ (Chg.refl _ _) hI rfl
        · intro _ a w1 vs hI ho hn hu K hK
          obtain ⟨e20, g20⟩ : a.tmps[20]? = some (vs 9) ∧ vs 9 = .pointer (some ⟨b, o + k * 4 + 1, none⟩) := hn 9 (by decide)
          rw [g20] at e20
          clear g20
          clear hn ho hu
          have hI : Keeps wr w1 := hI
          have c := keeps_cell hI K1.out
          go_simp
          exact hK _ _ (Chg.refl _ _) hI rfl
        · intro _ a w1 vs hI ho hn hu K hK
          have e0 : a.tmps[0]? = some (.slice (some ⟨b, o, none⟩) l.length q) := ho 0 rfl
          clear hn ho hu
          have hI : Keeps wr w1 := hI
          go_simp
          exact hK _ _ (Chg.refl _ _) hI rfl
        · intro _ a w1 vs hI ho hn hu K hK
          have e4 : a.tmps[4]? = some (.int .i64 (k : Int)) := ho 4 rfl
          clear hn ho hu
          have hI : Keeps wr w1 := hI
          go_simp
          exact hK _ _ (Chg.refl _ _) hI rfl
        · intro _ a w1 vs hI ho hn hu K hK
          obtain ⟨e22, g22⟩ : a.tmps[22]? = some (vs 11) ∧ vs 11 = .slice (some ⟨b, o, none⟩) l.length q := hn 11 (by decide)
          rw [g22] at e22
          clear g22
          obtain ⟨e23, g23⟩ : a.tmps[23]? = some (vs 12) ∧ vs 12 = .int .i64 (k : Int) := hn 12 (by decide)
          rw [g23] at e23
          clear g23
          clear hn ho hu
          have hI : Keeps wr w1 := hI
          go_simp
          exact hK _ _ (Chg.refl _ _) hI rfl
        · intro _ a w1 vs hI ho hn hu K hK
          obtain ⟨e24, g24⟩ : a.tmps[24]? = some (vs 13) ∧ vs 13 = .pointer (some ⟨b, o + k * 4, none⟩) := hn 13 (by decide)
          rw [g24] at e24
          clear g24
          clear hn ho hu
          have hI : Keeps wr w1 := hI
          go_simp
          exact hK _ _ (Chg.refl _ _) hI rfl
        · intro _ a w1 vs hI ho hn hu K hK
          obtain ⟨e25, g25⟩ : a.tmps[25]? = some (vs 14) ∧ vs 14 = .pointer (some ⟨b, o + k * 4 + 2, none⟩) := hn 14 (by decide)
          rw [g25] at e25
          clear g25
          clear hn ho hu
          have hI : Keeps wr w1 := hI
          have c := keeps_cell hI K2.out
          go_simp
          exact hK _ _ (Chg.refl _ _) hI rfl
        · intro _ a w1 vs hI ho hn hu K hK
          clear hn ho hu
          have hI : Keeps wr w1 := hI
          go_simp
          exact hK _ _ (Kept.any (kal _ _)) (Keeps.trans hI (kal _ _)) ⟨_, rfl⟩
        · intro _ a w1 vs hI ho hn hu K hK
          have e0 : a.tmps[0]? = some (.slice (some ⟨b, o, none⟩) l.length q) := ho 0 rfl
          clear hn ho hu
          have hI : Keeps wr w1 := hI
          go_simp
          exact hK _ _ (Chg.refl _ _) hI rfl
        · intro _ a w1 vs hI ho hn hu K hK
          have e4 : a.tmps[4]? = some (.int .i64 (k : Int)) := ho 4 rfl
          clear hn ho hu
          have hI : Keeps wr w1 := hI
          go_simp
          exact hK _ _ (Chg.refl _ _) hI rfl
        · intro _ a w1 vs hI ho hn hu K hK
          obtain ⟨e28, g28⟩ : a.tmps[28]? = some (vs 17) ∧ vs 17 = .slice (some ⟨b, o, none⟩) l.length q := hn 17 (by decide)
          rw [g28] at e28
          clear g28
          obtain ⟨e29, g29⟩ : a.tmps[29]? = some (vs 18) ∧ vs 18 = .int .i64 (k : Int) := hn 18 (by decide)
          rw [g29] at e29
          clear g29
          clear hn ho hu
          have hI : Keeps wr w1 := hI
          go_simp
          exact hK _ _ (Chg.refl _ _) hI rfl
        · intro _ a w1 vs hI ho hn hu K hK
          obtain ⟨e30, g30⟩ : a.tmps[30]? = some (vs 19) ∧ vs 19 = .pointer (some ⟨b, o + k * 4, none⟩) := hn 19 (by decide)
          rw [g30] at e30
          clear g30
          clear hn ho hu
          have hI : Keeps wr w1 := hI
          go_simp
          exact hK _ _ (Chg.refl _ _) hI rfl
        · intro _ a w1 vs hI ho hn hu K hK
          obtain ⟨e31, g31⟩ : a.tmps[31]? = some (vs 20) ∧ vs 20 = .pointer (some ⟨b, o + k * 4 + 3, none⟩) := hn 20 (by decide)
          rw [g31] at e31
          clear g31
          clear hn ho hu
          have hI : Keeps wr w1 := hI
          have c := keeps_cell hI K3.out
          go_simp
          exact hK _ _ (Chg.refl _ _) hI rfl
        · intro _ a w1 vs hI ho hn hu K hK
          obtain ⟨e27, g27⟩ : a.tmps[27]? = some (vs 16) ∧ ∃ g, (vs 16) = .slice (some ⟨g, 0, none⟩) 0 0 := hn 16 (by decide)
          obtain ⟨e32, g32⟩ : a.tmps[32]? = some (vs 21) ∧ vs 21 = .slice pc xc.length qc := hn 21 (by decide)
          rw [g32] at e32
          clear g32
          clear hn ho hu
          have hI : Keeps wr w1 := hI
          obtain ⟨g, r⟩ := g27
          rw [r] at e27
          refine oper_freshT rfl (.tmp 27) (.tmp 32) rfl g (by simp [Act.eval, e27]) pc xc.length qc xc (by simp [Act.eval, e32]) rfl (SeqAt.keeps HTX.out hI) HBD.out ?_
          intro v' w' ho hk
          exact hK v' w' (Kept.any hk) (Keeps.trans hI hk) (let ⟨p3, q3, r1, r2, r3⟩ := ho; ⟨p3, q3, r1, r2, r3.mono (fun b hb => Nat.le_trans (Kept.size hI) hb) fun _ _ x => x⟩)
        · intro _ a w1 vs hI ho hn hu K hK
          obtain ⟨e16, g16⟩ : a.tmps[16]? = some (vs 5) ∧ vs 5 = .string xn := hn 5 (by decide)
          rw [g16] at e16
          clear g16
          obtain ⟨e21, g21⟩ : a.tmps[21]? = some (vs 10) ∧ vs 10 = .bool xd := hn 10 (by decide)
          rw [g21] at e21
          clear g21
          obtain ⟨e26, g26⟩ : a.tmps[26]? = some (vs 15) ∧ vs 15 = .int .i64 xz := hn 15 (by decide)
          rw [g26] at e26
          clear g26
          obtain ⟨e33, g33⟩ : a.tmps[33]? = some (vs 22) ∧ ∃ p3 q3, (vs 22) = .slice p3 xc.length q3 ∧ xc.length ≤ q3 ∧ SeqIn (fun b => wr.heap.size ≤ b) 9 IsText w1.heap (.slice p3 xc.length q3) xc := hn 22 (by decide)
          clear hn ho hu
          have hI : Keeps wr w1 := hI
          obtain ⟨p3, q3, r1, r2, r3⟩ := g33
          rw [r1] at e33
          go_simp
          exact hK _ _ (Chg.refl _ _) hI ⟨p3, q3, rfl, r2, r3⟩
        · intro _ a w1 vs hI ho hn hu K hK
          obtain ⟨e34, g34⟩ : a.tmps[34]? = some (vs 23) ∧ ∃ p3 q3, (vs 23) = .agg #[.string xn, .bool xd, .int .i64 xz, .slice p3 xc.length q3] ∧ xc.length ≤ q3 ∧ SeqIn (fun b => wr.heap.size ≤ b) 9 IsText w1.heap (.slice p3 xc.length q3) xc := hn 23 (by decide)
          clear hn ho hu
          have hI : Keeps wr w1 := hI
          obtain ⟨p3, q3, r1, r2, r3⟩ := g34
          rw [r1] at e34
          go_simp
          exact hK _ _ (Kept.any (kal _ _)) (Keeps.trans hI (kal _ _)) ⟨_, p3, q3, rfl, Kept.size hI, BlkAt.new _ _ _, r2, r3.chg (T := fun _ => False) (Kept.any (kal _ _)) (fun _ _ _ _ x => x) fun _ _ _ x => x⟩
        · intro _ a w1 vs hI ho hn hu K hK
          obtain ⟨e11, g11⟩ : a.tmps[11]? = some (vs 0) ∧ vs 0 = .slice pv us.length qv := hn 0 (by decide)
          rw [g11] at e11
          clear g11
          obtain ⟨e35, g35⟩ : a.tmps[35]? = some (vs 24) ∧ ∃ g p3 q3, (vs 24) = .slice (some ⟨g, 0, none⟩) 1 1 ∧ wr.heap.size ≤ g ∧ BlkAt w1 g 33 #[.string xn, .bool xd, .int .i64 xz, .slice p3 xc.length q3] ∧ xc.length ≤ q3 ∧ SeqIn (fun b => wr.heap.size ≤ b) 9 IsText w1.heap (.slice p3 xc.length q3) xc := hn 24 (by decide)
          clear hn ho hu
          have hI : Keeps wr w1 := hI
          obtain ⟨g, p3, q3, r, hg, gb, r2, r3⟩ := g35
          rw [r] at e35
          refine oper_appr1 elEntG rfl (.tmp 11) (.tmp 35) rfl w.heap.size (.slice pv us.length qv) us.length us.flatten (by simp [Act.eval, e11]) (owns_chgK (T := fun _ => False) HUO.out (Kept.any hI) fun _ _ x => x) g [.string xn, .bool xd, .int .i64 xz, .slice p3 xc.length q3] (by simp [Act.eval, e35]) rfl (blk_cells gb) (by intro y hy; simp at hy; rcases hy with rfl | rfl | rfl | rfl <;> rfl) (by have := HL3.out; omega) (Nat.le_trans HSZ.out (Kept.size hI)) ?_
          intro v' w' ho hc
          exact hK v' w' (hc.mono fun b _ hb => HLT.out b hb) ⟨w1, _, hI, by rw [upd_self]; exact ho, ⟨_, rfl, r3, fun _ _ _ e => by cases e; exact r2⟩, hc⟩ trivial
        · intro _ a w1 vs hI ho hn hu K hK
          obtain ⟨e36, g36⟩ : a.tmps[36]? = some (vs 25) ∧ True := hn 25 (by decide)
          clear hn ho hu
          have hI : ∃ (w5 : World) (u : List Value), Keeps wr w5 ∧ w1.ownsRow w.heap.size 33 4 (vs 25) (us.length + 1) (us.flatten ++ u) ∧ IsEntT (fun b => wr.heap.size ≤ b) w5.heap u ⟨xn, xd, xz, xc⟩ ∧ Chg (fun q => Value.ownBlock (.slice pv us.length qv) = some q) w5 w1 := hI
          obtain ⟨w5, u, h5, ho, hp, hc⟩ := hI
          go_simp
          exact hK _ _ (Chg.refl _ _) ⟨w5, u, h5, by rw [upd_self]; exact ho, hp, hc⟩ trivial
      · intro vs wE hI hG
        obtain ⟨w5, u5, h5, ho, hp, hc⟩ : ∃ (w5 : World) (u : List Value), Keeps wr w5 ∧ wE.ownsRow w.heap.size 33 4 (vs 26) (us.length + 1) (us.flatten ++ u) ∧ IsEntT (fun b => wr.heap.size ≤ b) w5.heap u ⟨xn, xd, xz, xc⟩ ∧ Chg (fun q => Value.ownBlock (.slice pv us.length qv) = some q) w5 wE := hI
        clear hG
        simp only [setAll, Nat.zero_add, Nat.reduceAdd, List.setIfInBounds_toArray, List.set_cons_zero, List.set_cons_succ]
        generalize vs 0 = y0 at *
        generalize vs 1 = y1 at *
        generalize vs 2 = y2 at *
        generalize vs 3 = y3 at *
        generalize vs 4 = y4 at *
        generalize vs 5 = y5 at *
        generalize vs 6 = y6 at *
        generalize vs 7 = y7 at *
        generalize vs 8 = y8 at *
        generalize vs 9 = y9 at *
        generalize vs 10 = y10 at *
        generalize vs 11 = y11 at *
        generalize vs 12 = y12 at *
        generalize vs 13 = y13 at *
        generalize vs 14 = y14 at *
        generalize vs 15 = y15 at *
        generalize vs 16 = y16 at *
        generalize vs 17 = y17 at *
        generalize vs 18 = y18 at *
        generalize vs 19 = y19 at *
        generalize vs 20 = y20 at *
        generalize vs 21 = y21 at *
        generalize vs 22 = y22 at *
        generalize vs 23 = y23 at *
        generalize vs 24 = y24 at *
        generalize vs 25 = y25 at *
        generalize vs 26 = y26 at *
        have hcc : Chg (fun q => Value.ownBlock (.slice pv us.length qv) = some q) wr wE := (Kept.any h5).trans hc
        have HO6 : Hid (OwnRec w.heap.size 33 4 (IsEntT (fun _ => True) wE.heap) wE y26 (l.take (k + 1))) := by
          show OwnRec _ _ _ _ _ _ _
          rw [HTK.out]
          refine OwnRec.push (R := IsEntT (fun _ => True) wr.heap) HL2.out H3.out ho (fun a b _ x => IsEntT.chg x hcc fun b _ _ ht => own_typeT HUO.out ht (by decide)) (IsEntT.len hp) ?_
          exact (IsEntT.chg hp hc fun q _ hq _ e => Nat.not_lt.2 hq (HLT.out q e)).mono fun _ _ => trivial
        have HK6 : Hid (Keeps w wE) := hK.out.then (chg_kept (B := w.heap.size) hcc (fun q _ e => (own_blockK HUO.out q e).1) HSZ.out) (Nat.le_refl _)
        clear h5 ho hp hc hcc HUO HL2 HL3 H3 HLT K0 K1 K2 K3 HTX
        go_wp2_with fail
        refine ⟨?_, by simp [intOf]; omega⟩
        first | exact ⟨k + 1, by omega, by go_num, HO6, HK6⟩ | ((repeat apply Exists.intro); exact ⟨⟨k + 1, by omega, by go_num, HO6, HK6⟩, rfl⟩)
    · obtain rfl : k = l.length := by omega
      have HE := Lib.hid hO.out
      have HK2 := Lib.hid hK.out
      clear hO hK
      go_wp2_with fail
      go_ret
      refine ⟨_, rfl, ?_, ?_, HK2.out⟩
      · have h1 := HE.out
        rw [List.take_length] at h1
        exact (RecIn.at_ (h1.seq (by omega))).imp (fun _ _ _ e => e) fun _ _ _ x => x.at_
      · intro a n q e
        obtain ⟨us, h1, _⟩ := HE.out
        obtain ⟨p, c, e2, h2⟩ := own_sliceC h1
        have e5 := e.symm.trans e2
        injection e5 with _ e3 e4
        omega
theorem given_any (v : Value) (l : List EntR) (w : World) (h : EntsAt w.heap v l) (hb : NumE l) : Calls Tryd.prog 21 #[v] w fun e w' => ∃ v', e = .returned v' ∧ EntsAt w'.heap v' l ∧ Keeps w w' :=
  (given_cap v l w h hb).mono fun _ _ ⟨v', a, b, _, c⟩ => ⟨v', a, b, c⟩

def givT_I (w wr : World) (x : EntR) (vo : Value) (n : Nat) (xs : List Value) : Nat → (Nat → Value) → World → Prop
  | 0, _, w1 => Keeps wr w1
  | 1, vs, w1 => ∃ (w5 : World) (u : List Value), Keeps wr w5 ∧ w1.ownsRow w.heap.size 40 4 (vs 25) (n + 1) (xs ++ u) ∧ IsEntT (fun b => wr.heap.size ≤ b) w5.heap u x ∧ Chg (fun q => vo.ownBlock = some q) w5 w1
  | _, vs, w1 => ∃ (w5 : World) (u : List Value), Keeps wr w5 ∧ w1.ownsRow w.heap.size 40 4 (vs 26) (n + 1) (xs ++ u) ∧ IsEntT (fun b => wr.heap.size ≤ b) w5.heap u x ∧ Chg (fun q => vo.ownBlock = some q) w5 w1
def givT (b o nn q k N0 : Nat) (pv : Option Addr) (nu qv : Nat) (xn : ByteArray) (xd : Bool) (xz : Int) (xc : List ByteArray) (pc : Option Addr) (qc : Nat) : Nat → Value → World → Prop
  | 16, v, _ => ∃ g, v = .slice (some ⟨g, 0, none⟩) 0 0
  | 22, v, w => ∃ p3 q3, v = .slice p3 xc.length q3 ∧ xc.length ≤ q3 ∧ SeqIn (fun b => N0 ≤ b) 9 IsText w.heap (.slice p3 xc.length q3) xc
  | 23, v, w => ∃ p3 q3, v = .agg #[.string xn, .bool xd, .int .i64 xz, .slice p3 xc.length q3] ∧ xc.length ≤ q3 ∧ SeqIn (fun b => N0 ≤ b) 9 IsText w.heap (.slice p3 xc.length q3) xc
  | 24, v, w => ∃ g p3 q3, v = .slice (some ⟨g, 0, none⟩) 1 1 ∧ N0 ≤ g ∧ BlkAt w g 40 #[.string xn, .bool xd, .int .i64 xz, .slice p3 xc.length q3] ∧ xc.length ≤ q3 ∧ SeqIn (fun b => N0 ≤ b) 9 IsText w.heap (.slice p3 xc.length q3) xc
  | 25, _, _ => True
  | 26, _, _ => True
  | i, v, _ => v = ([.slice pv nu qv, .slice (some ⟨b, o, none⟩) nn q, .int .i64 (k : Int), .pointer (some ⟨b, o + k * 4, none⟩), .pointer (some ⟨b, o + k * 4, none⟩), .string xn, .slice (some ⟨b, o, none⟩) nn q, .int .i64 (k : Int), .pointer (some ⟨b, o + k * 4, none⟩), .pointer (some ⟨b, o + k * 4 + 1, none⟩), .bool xd, .slice (some ⟨b, o, none⟩) nn q, .int .i64 (k : Int), .pointer (some ⟨b, o + k * 4, none⟩), .pointer (some ⟨b, o + k * 4 + 2, none⟩), .int .i64 xz, undef, .slice (some ⟨b, o, none⟩) nn q, .int .i64 (k : Int), .pointer (some ⟨b, o + k * 4, none⟩), .pointer (some ⟨b, o + k * 4 + 3, none⟩), .slice pc xc.length qc, undef, undef, undef, undef, undef] : List Value).getD i undef
theorem givT_chg {b o nn q k N0 : Nat} {pv : Option Addr} {nu qv : Nat} {xn : ByteArray} {xd : Bool} {xz : Int} {xc : List ByteArray} {pc : Option Addr} {qc : Nat} (i : Nat) (v : Value) (w w' : World) (c : Chg (fun b => b < N0) w w') (h : givT b o nn q k N0 pv nu qv xn xd xz xc pc qc i v w) : givT b o nn q k N0 pv nu qv xn xd xz xc pc qc i v w' := by
  match i, h with
  | 0, h => exact h
  | 1, h => exact h
  | 2, h => exact h
  | 3, h => exact h
  | 4, h => exact h
  | 5, h => exact h
  | 6, h => exact h
  | 7, h => exact h
  | 8, h => exact h
  | 9, h => exact h
  | 10, h => exact h
  | 11, h => exact h
  | 12, h => exact h
  | 13, h => exact h
  | 14, h => exact h
  | 15, h => exact h
  | 16, h => exact h
  | 17, h => exact h
  | 18, h => exact h
  | 19, h => exact h
  | 20, h => exact h
  | 21, h => exact h
  | 22, h => exact (let ⟨p3, q3, r1, r2, r3⟩ := h; ⟨p3, q3, r1, r2, r3.chg c (fun b _ hb _ => Nat.not_lt.2 hb) fun _ _ _ x => x⟩)
  | 23, h => exact (let ⟨p3, q3, r1, r2, r3⟩ := h; ⟨p3, q3, r1, r2, r3.chg c (fun b _ hb _ => Nat.not_lt.2 hb) fun _ _ _ x => x⟩)
  | 24, h => exact (let ⟨g, p3, q3, r, hg, gb, r2, r3⟩ := h; ⟨g, p3, q3, r, hg, gb.chg c (Nat.not_lt.2 hg), r2, r3.chg c (fun b _ hb _ => Nat.not_lt.2 hb) fun _ _ _ x => x⟩)
  | 25, h => exact h
  | 26, h => exact h
  | _ + 27, h => exact h
theorem elEntT : ElemTyK Tryd.prog 22 40 (.agg #[.string ByteArray.empty, .bool false, .int .i64 0, .slice none 0 0]) 4 56 := ⟨Tryd.underlying22, by kernel_rfl, rfl, by decide, by decide⟩
set_option maxRecDepth 100000 in
set_option maxHeartbeats 8000000 in
theorem taken_any (v : Value) (l : List EntR) (w : World) (h : EntsAt w.heap v l) (hb : NumE l) : Calls Tryd.prog 17 #[v] w fun e w' => ∃ v', e = .returned v' ∧ EntsAt w'.heap v' l ∧ Keeps w w' := by
  obtain ⟨p, q, rfl⟩ := rec_shape h
  obtain ⟨hl6, hc6⟩ := hb
  have HC6 := Lib.hid hc6
  have H := Lib.hid h
  clear h hc6
  go_enter Tryd.func17, Tryd.ntmps17
  go_wp2_with fail
  go_loopw [3, 4] (fun vo i wr => ∃ k : Nat, k ≤ l.length ∧ i = .int .i64 k ∧ Hid (OwnRec w.heap.size 40 4 (IsEntT (fun _ => True) wr.heap) wr vo (l.take k)) ∧ Hid (Keeps w wr)) (fun _ i _ => l.length - (intOf i).toNat)
  case atStart => exact ⟨0, by omega, rfl, OwnRec.nil _ _ _ _ _, keeps_refl _⟩
  case round =>
    obtain ⟨k, hk, rfl, hO, hK⟩ := hrel
    by_cases hlt : k < l.length
    · have hlt64 : (k : Int) < (l.length : Int) := by omega
      have hk0 : (0 : Int) ≤ (k : Int) := by omega
      obtain ⟨us, hu1, hu2, hu3⟩ := hO.out
      obtain ⟨pv, qv, rfl, _⟩ := own_sliceC hu1
      have hul : us.length = k := by rw [hu2, List.length_take]; omega
      have HUO := Lib.hid hu1
      have HL2 := Lib.hid hu2
      have HL3 := Lib.hid hul
      have H3 := Lib.hid hu3
      have HSZ : Hid (w.heap.size ≤ wr.heap.size) := hK.out.size
      have HLT : Hid (∀ b, Value.ownBlock (.slice pv us.length qv) = some b → b < wr.heap.size) := fun b hb => (own_blockK HUO.out b hb).2.1
      clear hu1 hu2 hu3 hul hO
      obtain ⟨b, o, pc, qc, rfl, _, c0, c1, c2, c3, ht, hq⟩ := ent_cell (EntsAt.keeps H.out hK.out) hlt
      have HTK : Hid (l.take (k + 1) = l.take k ++ [eAt l k]) := take_eAt hlt
      have HBD : Hid ((eAt l k).c.length ≤ 1000000) := HC6.out _ (eAt_mem hlt)
      generalize eAt l k = X at *
      obtain ⟨xn, xd, xz, xc⟩ := X
      dsimp only at c0 c1 c2 c3 ht hq HBD
      have K0 := Lib.hid c0
      have K1 := Lib.hid c1
      have K2 := Lib.hid c2
      have K3 := Lib.hid c3
      have HTX := Lib.hid ht
      clear c0 c1 c2 c3 ht hq
      go_wp2_with fail
      refine wp_region_stage [11, 12, 13, 14, 15, 16, 17, 18, 19, 20, 21, 22, 23, 24, 25, 26, 27, 28, 29, 30, 31, 32, 33, 34, 35, 36, 3] [[], [], [], [1, 2], [3], [4], [], [], [6, 7], [8], [9], [], [], [11, 12], [13], [14], [], [], [], [17, 18], [19], [20], [16, 21], [5, 10, 15, 22], [23], [0, 24], [25]] [25, 26] [0, 0, 0, 0, 0, 0, 0, 0, 0, 0, 0, 0, 0, 0, 0, 0, 0, 0, 0, 0, 0, 0, 0, 0, 0, 0, 1] [] (givT b o l.length q k wr.heap.size pv us.length qv xn xd xz xc pc qc) (fun w w' => Chg (fun b => b < wr.heap.size) w w') (givT_I w wr ⟨xn, xd, xz, xc⟩ (.slice pv us.length qv) us.length us.flatten) (by kernel_rfl) (by kernel_rfl) (by kernel_rfl) (by kernel_rfl) (by kernel_rfl) (by kernel_rfl) (by kernel_rfl) ?_ ?_ ?_ ?_ ?_ ?_ ?_
      · exact fun i v w w' c h => givT_chg i v w w' c h
      · exact fun w => Chg.refl _ w
      · exact fun i s vs w h => by cases h
      · refine ⟨?_, ?_, ?_, ?_, ?_, ?_, ?_, ?_, ?_, ?_, ?_, ?_, ?_, ?_, ?_, ?_, ?_, ?_, ?_, ?_, ?_, ?_, ?_, ?_, ?_, ?_, ?_, trivial⟩
        · exact fun g b h => by (cases h)
        · exact fun g b h => by (cases h)
        · exact fun g b h => by (cases h)
        · exact fun g b h => by (cases h)
        · exact fun g b h => by (cases h)
        · exact fun g b h => by (cases h)
        · exact fun g b h => by (cases h)
        · exact fun g b h => by (cases h)
        · exact fun g b h => by (cases h)
        · exact fun g b h => by (cases h)
        · exact fun g b h => by (cases h)
        · exact fun g b h => by (cases h)
        · exact fun g b h => by (cases h)
        · exact fun g b h => by (cases h)
        · exact fun g b h => by (cases h)
        · exact fun g b h => by (cases h)
        · exact fun g b h => by (cases h)
        · exact fun g b h => by (cases h)
        · exact fun g b h => by (cases h)
        · exact fun g b h => by (cases h)
        · exact fun g b h => by (cases h)
        · exact fun g b h => by (cases h)
        · exact fun g b h => by (cases h)
        · exact fun g b h => by (cases h)
        · exact fun g b h => by (cases h)
        · exact fun g b h => by (cases h)
        · exact fun g b h => by (cases h)
      · exact fun _ _ => keeps_refl wr
      · refine ⟨?_, ?_, ?_, ?_, ?_, ?_, ?_, ?_, ?_, ?_, ?_, ?_, ?_, ?_, ?_, ?_, ?_, ?_, ?_, ?_, ?_, ?_, ?_, ?_, ?_, ?_, ?_, trivial⟩
        · intro _ a w1 vs hI ho hn hu K hK
          have e3 : a.tmps[3]? = some (.slice pv us.length qv) := hu 26 (by decide) (by decide)
          clear hn ho hu
          have hI : Keeps wr w1 := hI
          go_simp
          exact hK _ _ (Chg.refl _ _) hI rfl
        · intro _ a w1 vs hI ho hn hu K hK
          have e0 : a.tmps[0]? = some (.slice (some ⟨b, o, none⟩) l.length q) := ho 0 rfl
          clear hn ho hu
          have hI : Keeps wr w1 := hI
          go_simp
          exact hK _ _ (Chg.refl _ _) hI rfl
        · intro _ a w1 vs hI ho hn hu K hK
          have e4 : a.tmps[4]? = some (.int .i64 (k : Int)) := ho 4 rfl
          clear hn ho hu
          have hI : Keeps wr w1 := hI
          go_simp
          exact hK _ _ (Chg.refl _ _) hI rfl
        · intro _ a w1 vs hI ho hn hu K hK
          obtain ⟨e12, g12⟩ : a.tmps[12]? = some (vs 1) ∧ vs 1 = .slice (some ⟨b, o, none⟩) l.length q := hn 1 (by decide)
          rw [g12] at e12
          clear g12
          obtain ⟨e13, g13⟩ : a.tmps[13]? = some (vs 2) ∧ vs 2 = .int .i64 (k : Int) := hn 2 (by decide)
          rw [g13] at e13
          clear g13
          clear hn ho hu
          have hI : Keeps wr w1 := hI
          go_simp
          exact hK _ _ (Chg.refl _ _) hI rfl
        · intro _ a w1 vs hI ho hn hu K hK
          obtain ⟨e14, g14⟩ : a.tmps[14]? = some (vs 3) ∧ vs 3 = .pointer (some ⟨b, o + k * 4, none⟩) := hn 3 (by decide)
          rw [g14] at e14
          clear g14
          clear hn ho hu
          have hI : Keeps wr w1 := hI
          go_simp
          exact hK _ _ (Chg.refl _ _) hI rfl
        · intro _ a w1 vs hI ho hn hu K hK
          obtain ⟨e15, g15⟩ : a.tmps[15]? = some (vs 4) ∧ vs 4 = .pointer (some ⟨b, o + k * 4, none⟩) := hn 4 (by decide)
          rw [g15] at e15
          clear g15
          clear hn ho hu
          have hI : Keeps wr w1 := hI
          have c := keeps_cell hI K0.out
          go_simp
          exact hK _ _ (Chg.refl _ _) hI rfl
        · intro _ a w1 vs hI ho hn hu K hK
          have e0 : a.tmps[0]? = some (.slice (some ⟨b, o, none⟩) l.length q) := ho 0 rfl
          clear hn ho hu
          have hI : Keeps wr w1 := hI
          go_simp
          exact hK _ _ (Chg.refl _ _) hI rfl
        · intro _ a w1 vs hI ho hn hu K hK
          have e4 : a.tmps[4]? = some (.int .i64 (k : Int)) := ho 4 rfl
          clear hn ho hu
          have hI : Keeps wr w1 := hI
          go_simp
          exact hK _ _ (Chg.refl _ _) hI rfl
        · intro _ a w1 vs hI ho hn hu K hK
          obtain ⟨e17, g17⟩ : a.tmps[17]? = some (vs 6) ∧ vs 6 = .slice (some ⟨b, o, none⟩) l.length q := hn 6 (by decide)
          rw [g17] at e17
          clear g17
          obtain ⟨e18, g18⟩ : a.tmps[18]? = some (vs 7) ∧ vs 7 = .int .i64 (k : Int) := hn 7 (by decide)
          rw [g18] at e18
          clear g18
          clear hn ho hu
          have hI : Keeps wr w1 := hI
          go_simp
          exact hK _ _ (Chg.refl _ _) hI rfl
        · intro _ a w1 vs hI ho hn hu K hK
          obtain ⟨e19, g19⟩ : a.tmps[19]? = some (vs 8) ∧ vs 8 = .pointer (some ⟨b, o + k * 4, none⟩) := hn 8 (by decide)
          rw [g19] at e19
          clear g19
          clear hn ho hu
          have hI : Keeps wr w1 := hI
          go_simp
          exact hK _ _ (Chg.refl _ _) hI rfl
        · intro _ a w1 vs hI ho hn hu K hK
          obtain ⟨e20, g20⟩ : a.tmps[20]? = some (vs 9) ∧ vs 9 = .pointer (some ⟨b, o + k * 4 + 1, none⟩) := hn 9 (by decide)
          rw [g20] at e20
          clear g20
          clear hn ho hu
          have hI : Keeps wr w1 := hI
          have c := keeps_cell hI K1.out
          go_simp
          exact hK _ _ (Chg.refl _ _) hI rfl
        · intro _ a w1 vs hI ho hn hu K hK
          have e0 : a.tmps[0]? = some (.slice (some ⟨b, o, none⟩) l.length q) := ho 0 rfl
          clear hn ho hu
          have hI : Keeps wr w1 := hI
          go_simp
          exact hK _ _ (Chg.refl _ _) hI rfl
        · intro _ a w1 vs hI ho hn hu K hK
          have e4 : a.tmps[4]? = some (.int .i64 (k : Int)) := ho 4 rfl
          clear hn ho hu
          have hI : Keeps wr w1 := hI
          go_simp
          exact hK _ _ (Chg.refl _ _) hI rfl
        · intro _ a w1 vs hI ho hn hu K hK
          obtain ⟨e22, g22⟩ : a.tmps[22]? = some (vs 11) ∧ vs 11 = .slice (some ⟨b, o, none⟩) l.length q := hn 11 (by decide)
          rw [g22] at e22
          clear g22
          obtain ⟨e23, g23⟩ : a.tmps[23]? = some (vs 12) ∧ vs 12 = .int .i64 (k : Int) := hn 12 (by decide)
          rw [g23] at e23
          clear g23
          clear hn ho hu
          have hI : Keeps wr w1 := hI
          go_simp
          exact hK _ _ (Chg.refl _ _) hI rfl
        · intro _ a w1 vs hI ho hn hu K hK
          obtain ⟨e24, g24⟩ : a.tmps[24]? = some (vs 13) ∧ vs 13 = .pointer (some ⟨b, o + k * 4, none⟩) := hn 13 (by decide)
          rw [g24] at e24
          clear g24
          clear hn ho hu
          have hI : Keeps wr w1 := hI
          go_simp
          exact hK _ _ (Chg.refl _ _) hI rfl
        · intro _ a w1 vs hI ho hn hu K hK
          obtain ⟨e25, g25⟩ : a.tmps[25]? = some (vs 14) ∧ vs 14 = .pointer (some ⟨b, o + k * 4 + 2, none⟩) := hn 14 (by decide)
          rw [g25] at e25
          clear g25
          clear hn ho hu
          have hI : Keeps wr w1 := hI
          have c := keeps_cell hI K2.out
          go_simp
          exact hK _ _ (Chg.refl _ _) hI rfl
        · intro _ a w1 vs hI ho hn hu K hK
          clear hn ho hu
          have hI : Keeps wr w1 := hI
          go_simp
          exact hK _ _ (Kept.any (kal _ _)) (Keeps.trans hI (kal _ _)) ⟨_, rfl⟩
        · intro _ a w1 vs hI ho hn hu K hK
          have e0 : a.tmps[0]? = some (.slice (some ⟨b, o, none⟩) l.length q) := ho 0 rfl
          clear hn ho hu
          have hI : Keeps wr w1 := hI
          go_simp
          exact hK _ _ (Chg.refl _ _) hI rfl
        · intro _ a w1 vs hI ho hn hu K hK
          have e4 : a.tmps[4]? = some (.int .i64 (k : Int)) := ho 4 rfl
          clear hn ho hu
          have hI : Keeps wr w1 := hI
          go_simp
          exact hK _ _ (Chg.refl _ _) hI rfl
        · intro _ a w1 vs hI ho hn hu K hK
          obtain ⟨e28, g28⟩ : a.tmps[28]? = some (vs 17) ∧ vs 17 = .slice (some ⟨b, o, none⟩) l.length q := hn 17 (by decide)
          rw [g28] at e28
          clear g28
          obtain ⟨e29, g29⟩ : a.tmps[29]? = some (vs 18) ∧ vs 18 = .int .i64 (k : Int) := hn 18 (by decide)
          rw [g29] at e29
          clear g29
          clear hn ho hu
          have hI : Keeps wr w1 := hI
          go_simp
          exact hK _ _ (Chg.refl _ _) hI rfl
        · intro _ a w1 vs hI ho hn hu K hK
          obtain ⟨e30, g30⟩ : a.tmps[30]? = some (vs 19) ∧ vs 19 = .pointer (some ⟨b, o + k * 4, none⟩) := hn 19 (by decide)
          rw [g30] at e30
          clear g30
          clear hn ho hu
          have hI : Keeps wr w1 := hI
          go_simp
          exact hK _ _ (Chg.refl _ _) hI rfl
        · intro _ a w1 vs hI ho hn hu K hK
          obtain ⟨e31, g31⟩ : a.tmps[31]? = some (vs 20) ∧ vs 20 = .pointer (some ⟨b, o + k * 4 + 3, none⟩) := hn 20 (by decide)
          rw [g31] at e31
          clear g31
          clear hn ho hu
          have hI : Keeps wr w1 := hI
          have c := keeps_cell hI K3.out
          go_simp
          exact hK _ _ (Chg.refl _ _) hI rfl
        · intro _ a w1 vs hI ho hn hu K hK
          obtain ⟨e27, g27⟩ : a.tmps[27]? = some (vs 16) ∧ ∃ g, (vs 16) = .slice (some ⟨g, 0, none⟩) 0 0 := hn 16 (by decide)
          obtain ⟨e32, g32⟩ : a.tmps[32]? = some (vs 21) ∧ vs 21 = .slice pc xc.length qc := hn 21 (by decide)
          rw [g32] at e32
          clear g32
          clear hn ho hu
          have hI : Keeps wr w1 := hI
          obtain ⟨g, r⟩ := g27
          rw [r] at e27
          refine oper_freshT rfl (.tmp 27) (.tmp 32) rfl g (by simp [Act.eval, e27]) pc xc.length qc xc (by simp [Act.eval, e32]) rfl (SeqAt.keeps HTX.out hI) HBD.out ?_
          intro v' w' ho hk
          exact hK v' w' (Kept.any hk) (Keeps.trans hI hk) (let ⟨p3, q3, r1, r2, r3⟩ := ho; ⟨p3, q3, r1, r2, r3.mono (fun b hb => Nat.le_trans (Kept.size hI) hb) fun _ _ x => x⟩)
        · intro _ a w1 vs hI ho hn hu K hK
          obtain ⟨e16, g16⟩ : a.tmps[16]? = some (vs 5) ∧ vs 5 = .string xn := hn 5 (by decide)
          rw [g16] at e16
          clear g16
          obtain ⟨e21, g21⟩ : a.tmps[21]? = some (vs 10) ∧ vs 10 = .bool xd := hn 10 (by decide)
          rw [g21] at e21
          clear g21
          obtain ⟨e26, g26⟩ : a.tmps[26]? = some (vs 15) ∧ vs 15 = .int .i64 xz := hn 15 (by decide)
          rw [g26] at e26
          clear g26
          obtain ⟨e33, g33⟩ : a.tmps[33]? = some (vs 22) ∧ ∃ p3 q3, (vs 22) = .slice p3 xc.length q3 ∧ xc.length ≤ q3 ∧ SeqIn (fun b => wr.heap.size ≤ b) 9 IsText w1.heap (.slice p3 xc.length q3) xc := hn 22 (by decide)
          clear hn ho hu
          have hI : Keeps wr w1 := hI
          obtain ⟨p3, q3, r1, r2, r3⟩ := g33
          rw [r1] at e33
          go_simp
          exact hK _ _ (Chg.refl _ _) hI ⟨p3, q3, rfl, r2, r3⟩
        · intro _ a w1 vs hI ho hn hu K hK
          obtain ⟨e34, g34⟩ : a.tmps[34]? = some (vs 23) ∧ ∃ p3 q3, (vs 23) = .agg #[.string xn, .bool xd, .int .i64 xz, .slice p3 xc.length q3] ∧ xc.length ≤ q3 ∧ SeqIn (fun b => wr.heap.size ≤ b) 9 IsText w1.heap (.slice p3 xc.length q3) xc := hn 23 (by decide)
          clear hn ho hu
          have hI : Keeps wr w1 := hI
          obtain ⟨p3, q3, r1, r2, r3⟩ := g34
          rw [r1] at e34
          go_simp
          exact hK _ _ (Kept.any (kal _ _)) (Keeps.trans hI (kal _ _)) ⟨_, p3, q3, rfl, Kept.size hI, BlkAt.new _ _ _, r2, r3.chg (T := fun _ => False) (Kept.any (kal _ _)) (fun _ _ _ _ x => x) fun _ _ _ x => x⟩
        · intro _ a w1 vs hI ho hn hu K hK
          obtain ⟨e11, g11⟩ : a.tmps[11]? = some (vs 0) ∧ vs 0 = .slice pv us.length qv := hn 0 (by decide)
          rw [g11] at e11
          clear g11
          obtain ⟨e35, g35⟩ : a.tmps[35]? = some (vs 24) ∧ ∃ g p3 q3, (vs 24) = .slice (some ⟨g, 0, none⟩) 1 1 ∧ wr.heap.size ≤ g ∧ BlkAt w1 g 40 #[.string xn, .bool xd, .int .i64 xz, .slice p3 xc.length q3] ∧ xc.length ≤ q3 ∧ SeqIn (fun b => wr.heap.size ≤ b) 9 IsText w1.heap (.slice p3 xc.length q3) xc := hn 24 (by decide)
          clear hn ho hu
          have hI : Keeps wr w1 := hI
          obtain ⟨g, p3, q3, r, hg, gb, r2, r3⟩ := g35
          rw [r] at e35
          refine oper_appr1 elEntT rfl (.tmp 11) (.tmp 35) rfl w.heap.size (.slice pv us.length qv) us.length us.flatten (by simp [Act.eval, e11]) (owns_chgK (T := fun _ => False) HUO.out (Kept.any hI) fun _ _ x => x) g [.string xn, .bool xd, .int .i64 xz, .slice p3 xc.length q3] (by simp [Act.eval, e35]) rfl (blk_cells gb) (by intro y hy; simp at hy; rcases hy with rfl | rfl | rfl | rfl <;> rfl) (by have := HL3.out; omega) (Nat.le_trans HSZ.out (Kept.size hI)) ?_
          intro v' w' ho hc
          exact hK v' w' (hc.mono fun b _ hb => HLT.out b hb) ⟨w1, _, hI, by rw [upd_self]; exact ho, ⟨_, rfl, r3, fun _ _ _ e => by cases e; exact r2⟩, hc⟩ trivial
        · intro _ a w1 vs hI ho hn hu K hK
          obtain ⟨e36, g36⟩ : a.tmps[36]? = some (vs 25) ∧ True := hn 25 (by decide)
          clear hn ho hu
          have hI : ∃ (w5 : World) (u : List Value), Keeps wr w5 ∧ w1.ownsRow w.heap.size 40 4 (vs 25) (us.length + 1) (us.flatten ++ u) ∧ IsEntT (fun b => wr.heap.size ≤ b) w5.heap u ⟨xn, xd, xz, xc⟩ ∧ Chg (fun q => Value.ownBlock (.slice pv us.length qv) = some q) w5 w1 := hI
          obtain ⟨w5, u, h5, ho, hp, hc⟩ := hI
          go_simp
          exact hK _ _ (Chg.refl _ _) ⟨w5, u, h5, by rw [upd_self]; exact ho, hp, hc⟩ trivial
      · intro vs wE hI hG
        obtain ⟨w5, u5, h5, ho, hp, hc⟩ : ∃ (w5 : World) (u : List Value), Keeps wr w5 ∧ wE.ownsRow w.heap.size 40 4 (vs 26) (us.length + 1) (us.flatten ++ u) ∧ IsEntT (fun b => wr.heap.size ≤ b) w5.heap u ⟨xn, xd, xz, xc⟩ ∧ Chg (fun q => Value.ownBlock (.slice pv us.length qv) = some q) w5 wE := hI
        clear hG
        simp only [setAll, Nat.zero_add, Nat.reduceAdd, List.setIfInBounds_toArray, List.set_cons_zero, List.set_cons_succ]
        generalize vs 0 = y0 at *
        generalize vs 1 = y1 at *
        generalize vs 2 = y2 at *
        generalize vs 3 = y3 at *
        generalize vs 4 = y4 at *
        generalize vs 5 = y5 at *
        generalize vs 6 = y6 at *
        generalize vs 7 = y7 at *
        generalize vs 8 = y8 at *
        generalize vs 9 = y9 at *
        generalize vs 10 = y10 at *
        generalize vs 11 = y11 at *
        generalize vs 12 = y12 at *
        generalize vs 13 = y13 at *
        generalize vs 14 = y14 at *
        generalize vs 15 = y15 at *
        generalize vs 16 = y16 at *
        generalize vs 17 = y17 at *
        generalize vs 18 = y18 at *
        generalize vs 19 = y19 at *
        generalize vs 20 = y20 at *
        generalize vs 21 = y21 at *
        generalize vs 22 = y22 at *
        generalize vs 23 = y23 at *
        generalize vs 24 = y24 at *
        generalize vs 25 = y25 at *
        generalize vs 26 = y26 at *
        have hcc : Chg (fun q => Value.ownBlock (.slice pv us.length qv) = some q) wr wE := (Kept.any h5).trans hc
        have HO6 : Hid (OwnRec w.heap.size 40 4 (IsEntT (fun _ => True) wE.heap) wE y26 (l.take (k + 1))) := by
          show OwnRec _ _ _ _ _ _ _
          rw [HTK.out]
          refine OwnRec.push (R := IsEntT (fun _ => True) wr.heap) HL2.out H3.out ho (fun a b _ x => IsEntT.chg x hcc fun b _ _ ht => own_typeT HUO.out ht (by decide)) (IsEntT.len hp) ?_
          exact (IsEntT.chg hp hc fun q _ hq _ e => Nat.not_lt.2 hq (HLT.out q e)).mono fun _ _ => trivial
        have HK6 : Hid (Keeps w wE) := hK.out.then (chg_kept (B := w.heap.size) hcc (fun q _ e => (own_blockK HUO.out q e).1) HSZ.out) (Nat.le_refl _)
        clear h5 ho hp hc hcc HUO HL2 HL3 H3 HLT K0 K1 K2 K3 HTX
        go_wp2_with fail
        refine ⟨?_, by simp [intOf]; omega⟩
        first | exact ⟨k + 1, by omega, by go_num, HO6, HK6⟩ | ((repeat apply Exists.intro); exact ⟨⟨k + 1, by omega, by go_num, HO6, HK6⟩, rfl⟩)
    · obtain rfl : k = l.length := by omega
      have HE := Lib.hid hO.out
      have HK2 := Lib.hid hK.out
      clear hO hK
      go_wp2_with fail
      go_ret
      refine ⟨_, rfl, ?_, HK2.out⟩
      have h1 := HE.out
      rw [List.take_length] at h1
      exact (RecIn.at_ (h1.seq (by omega))).imp (fun _ _ _ e => e) fun _ _ _ x => x.at_

end Go.Proofs.YtdpfanifagfciaaDoor
/- The walks of law19's large, file (without chunks), refused, works. -/
namespace Go.Proofs.YtdpfanifagfciaaDoor
open Go.RowKit
attribute [local go_sem ↓] Go.wp_at_zero Go.wp_at_succ
/-- What an entry counts. -/
def costE (x : EntR) : Nat := 1 + x.c.length + x.n.size / 64
def sumE (l : List EntR) (k : Nat) : Nat := ((l.take k).map costE).sum
theorem sumE_succ {l : List EntR} {k : Nat} (h : k < l.length) : sumE l (k + 1) = sumE l k + costE (eAt l k) := by
  unfold sumE; rw [take_eAt h]; simp
theorem sumE_mono (l : List EntR) (k : Nat) : sumE l k ≤ sumE l l.length := by
  unfold sumE
  rw [List.take_length]
  have : ((l.take k ++ l.drop k).map costE).sum = ((l.take k).map costE).sum + ((l.drop k).map costE).sum := by rw [List.map_append, List.sum_append]
  rw [List.take_append_drop] at this
  omega
def largeL (l : List EntR) : Bool := decide (3000 ≤ sumE l l.length)
theorem sum_mem {l : List Nat} {x : Nat} (h : x ∈ l) : x ≤ l.sum := by
  induction l with
  | nil => cases h
  | cons y l ih =>
    rw [List.sum_cons]
    rcases List.mem_cons.1 h with rfl | h
    · omega
    · have := ih h; omega
theorem sum_len {l : List EntR} : l.length ≤ (l.map costE).sum := by
  induction l with
  | nil => simp
  | cons y l ih => simp only [List.map_cons, List.sum_cons, List.length_cons]; unfold costE at *; omega
theorem largeL_no {l : List EntR} (h : largeL l = false) : l.length < 3000 ∧ ∀ x ∈ l, x.c.length < 3000 ∧ x.n.size < 200000 := by
  unfold largeL sumE at h
  rw [decide_eq_false_iff_not, List.take_length] at h
  refine ⟨by have := @sum_len l; omega, fun x hx => ?_⟩
  have := sum_mem (List.mem_map_of_mem (f := costE) hx)
  unfold costE at this h
  omega
theorem largeL_num {l : List EntR} (h : largeL l = false) : NumE l := let ⟨a, b⟩ := largeL_no h; ⟨by omega, fun x hx => by have := (b x hx).1; omega⟩
/-- What any entries weigh. -/
def WeighE (l : List EntR) : Prop := ∀ x ∈ l, x.c.length ≤ 140737488351232 ∧ x.n.size ≤ 140737488351232
set_option maxRecDepth 100000 in
set_option maxHeartbeats 4000000 in
theorem large_any (v : Value) (l : List EntR) (w : World) (h : EntsAt w.heap v l) (hw : WeighE l) : Calls Tryd.prog 19 #[v] w fun e w' => e = .returned (.bool (largeL l)) ∧ Keeps w w' := by
  obtain ⟨p, q, rfl⟩ := rec_shape h
  have hl63 : l.length ≤ 9223372036854775807 := let ⟨_, _, _, x, _⟩ := h; x
  have H := Lib.hid h
  have HW := Lib.hid hw
  clear h hw
  go_enter Tryd.func19, Tryd.ntmps19
  go_wp2_with fail
  go_loopw [3, 4] (fun n i wr => ∃ k s : Nat, k ≤ l.length ∧ n = .int .i64 (s : Int) ∧ i = .int .i64 k ∧ s ≤ 1000000000000000 ∧ Hid (s = sumE l k) ∧ Hid (Keeps w wr)) (fun _ i _ => l.length - (intOf i).toNat)
  case atStart => exact ⟨0, 0, by omega, rfl, rfl, by omega, by show _ = _; unfold sumE; simp, keeps_refl _⟩
  case round =>
    obtain ⟨k, s, hk, rfl, rfl, hs, hS, hK⟩ := hrel
    by_cases hlt : k < l.length
    · have hlt64 : decide ((k : Int) < (l.length : Int)) = true := decide_eq_true (by omega)
      have hlt65 : (k : Int) < (l.length : Int) := by omega
      by_cases h3 : s < 3000
      · have g3 : decide ((s : Int) < 3000) = true := decide_eq_true (by omega)
        have g4 : (s : Int) < 3000 := by omega
        have hk0 : (0 : Int) ≤ (k : Int) := by omega
        obtain ⟨b, o, pc, qc, rfl, _, c0, _, _, c3, _, _⟩ := ent_cell (EntsAt.keeps H.out hK.out) hlt
        obtain ⟨z1, z2⟩ := HW.out _ (eAt_mem hlt)
        have HS2 : Hid (∀ t : Nat, t = s + 1 + (eAt l k).c.length + (eAt l k).n.size / 64 → t = sumE l (k + 1)) := fun t e => by
          rw [sumE_succ hlt, ← hS.out, e]; unfold costE; omega
        generalize (eAt l k).c.length = m at *
        generalize (eAt l k).n = nm at *
        have d1 : Int.tdiv (nm.size : Int) 64 = ((nm.size / 64 : Nat) : Int) := by
          rw [Int.tdiv_eq_ediv_of_nonneg (by omega)]; omega
        have HT := Lib.hid (HS2.out _ rfl)
        have hd2 : nm.size / 64 ≤ 140737488351232 := by omega
        clear HS2
        generalize nm.size / 64 = D at *
        go_wp2_with fail
        go_quiet (fail)
        go_wp2_with fail
        refine ⟨?_, by simp [intOf]; omega⟩
        first | exact ⟨k + 1, s + 1 + m + D, by omega, by go_num, by go_num, by omega, HT, hK⟩ | ((repeat apply Exists.intro); exact ⟨⟨k + 1, s + 1 + m + D, by omega, by go_num, by go_num, by omega, HT, hK⟩, rfl⟩)
      · have g3 : decide ((s : Int) < 3000) = false := decide_eq_false (by omega)
        have g4 : decide ((3000 : Int) ≤ (s : Int)) = true := decide_eq_true (by omega)
        have HT : Hid (largeL l = true) := decide_eq_true (by have := sumE_mono l k; rw [← hS.out] at this; omega)
        clear h3
        go_wp2_with fail
        go_ret
        exact ⟨by rw [HT.out]; rfl, hK.out⟩
    · obtain rfl : k = l.length := by omega
      have HT : Hid (largeL l = decide ((3000 : Int) ≤ (s : Int))) := by
        show _ = _; unfold largeL; rw [← hS.out]; exact decide_eq_decide.2 (by omega)
      generalize hg : decide ((3000 : Int) ≤ (s : Int)) = bb at *
      go_wp2_with fail
      go_ret
      exact ⟨by rw [HT.out]; rfl, hK.out⟩
/-- A file of so many bytes, without chunks. -/
def fileE (nm : ByteArray) (z : Int) : EntR := ⟨nm, false, z, []⟩
def fileV (nm : ByteArray) (z : Int) : Value := .agg #[.string nm, .bool false, .int .i64 z, .slice none 0 0]
def entL (x : EntR) : List Value := [.string x.n, .bool x.d, .int .i64 x.z, .slice none 0 0]
def entsL (l : List EntR) : List Value := (l.map entL).flatten
theorem ents_lit (w : World) (l : List EntR) (cs : Array Value) (n c : Nat) (hcs : cs = (entsL l).toArray) (hn : l.length = n) (h63 : n ≤ 9223372036854775807) (h0 : ∀ x ∈ l, x.c = []) : EntsAt (w.alloc (.cells cs 33)).heap (.slice (some ⟨w.heap.size, 0, none⟩) n c) l := by
  subst hn hcs
  have hk : ∀ i (h : i < (l.map entL).length), (l.map entL)[i].length = 4 := fun i h => by simp [entL]
  refine ⟨_, c, rfl, h63, fun i hi => ⟨w.heap.size, 0, entL l[i], rfl, rfl, fun j hj => ?_, ⟨.slice none 0 0, rfl, ?_, fun a n q e => by cases e; exact Nat.le_refl _⟩⟩⟩
  · have h4 := flat_at (l.map entL) hk i j (by simpa using hi) (by rw [hk]; exact hj)
    rw [← cell_of, World.cell?_alloc_new, Nat.zero_add]
    show (entsL l).toArray[i * 4 + j]? = _
    rw [← Array.getElem?_toList]
    show (entsL l)[i * 4 + j]? = _
    unfold entsL
    rw [h4]; simp
  · rw [h0 _ (List.getElem_mem hi)]
    exact ⟨none, 0, rfl, by simp, fun i hi => absurd hi (by simp)⟩
theorem setRow_alloc1 (w : World) (o : Obj) (c c' : Array Value) (t : TypeId) : ((w.alloc o).alloc (.cells c t)).setRow (w.heap.size + 1) c' = (w.alloc o).alloc (.cells c' t) := by
  have := World.setRow_alloc_new (w.alloc o) c c' t
  rwa [World.size_alloc] at this
theorem heap_alloc_last1 (w : World) (o o' : Obj) : ((w.alloc o).alloc o').heap[w.heap.size + 1]? = some o' := by
  have := heap_alloc_last (w.alloc o) o'
  rwa [World.size_alloc] at this
set_option maxRecDepth 100000 in
set_option maxHeartbeats 4000000 in
theorem file0_any (nm : ByteArray) (z : Int) (w : World) : Calls Tryd.prog 44 #[.string nm, .int .i64 z, .int .i64 0] w fun e w' => e = .returned (fileV nm z) ∧ Keeps w w' := by
  go_enter Tryd.func44, Tryd.ntmps44
  go_wp2_with (refine wpList_store_row rfl 33 (.tmp 7) (.tmp 11) rfl (w.heap.size + 1) #[.string nm, .bool false, .int .i64 z, .slice none 0 0] rfl rfl 33 _ (heap_alloc_last1 w _ _) (by kernel_rfl) rfl (entA_one nm false z none 0 0) ?_; rw [setRow_alloc1])
  go_loopw [8] (fun i wr => i = .int .i64 0 ∧ Hid (BlkAt wr w.heap.size 33 #[.string ByteArray.empty, .bool false, .int .i64 0, .slice none 0 0]) ∧ Hid (BlkAt wr (w.heap.size + 1) 33 #[.string nm, .bool false, .int .i64 z, .slice none 0 0]) ∧ Hid (Keeps w wr)) (fun _ _ => 0)
  case atStart => exact ⟨rfl, (BlkAt.new w _ _).keeps (kal _ _), heap_alloc_last1 w _ _, (kal _ _).trans (kal _ _)⟩
  case round =>
    obtain ⟨rfl, h1, h2, hK⟩ := hrel
    go_wp2_with (first | (refine wpList_load_row rfl 33 (.tmp 7) rfl (w.heap.size + 1) rfl 33 _ (0, 0) _ h2.out Tryd.underlying33 rfl (by kernel_rfl) ?_) | (refine wpList_store_row rfl 33 (.tmp 6) (.tmp 23) rfl w.heap.size #[.string nm, .bool false, .int .i64 z, .slice none 0 0] rfl rfl 33 _ h1.out (by kernel_rfl) rfl (entA_one nm false z none 0 0) ?_))
    exact bodyPost_ret (v := fileV nm z) (results_cell_row rfl _ _ w.heap.size 33 (#[.string nm, .bool false, .int .i64 z, .slice none 0 0] : Array Value) (0, 0) _ rfl (setRow_heap wr _ _ _ _ _ h1.out) Tryd.underlying33 rfl (by kernel_rfl)) rfl ⟨rfl, hK.out.then (chg_kept (B := w.heap.size) (chg_row _ _ _) (fun q _ e => by subst e; exact Nat.le_refl _) hK.out.size) (Nat.le_refl _)⟩
theorem makeE_no {l : List EntR} (h : mayL l = false) : makeE l = (⟨#[]⟩, 4) := by unfold makeE; rw [h]; rfl
set_option maxRecDepth 100000 in
set_option maxHeartbeats 4000000 in
/-- What may not be is refused. -/
theorem refused_any (v : Value) (l : List EntR) (w : World) (h : EntsAt w.heap v l) (hm : mayL l = false) : Calls Tryd.prog 45 #[v] w fun e w' => e = .returned (.bool true) ∧ Keeps w w' := by
  have H := Lib.hid h
  have HE := Lib.hid (makeE_no hm)
  have HM := Lib.hid hm
  obtain ⟨p, q, rfl⟩ := rec_shape h
  clear h hm
  go_enter Tryd.func45, Tryd.ntmps45
  go_wp2_with fail
  refine Calls.mono (nmake_any _ l _ H.out) ?_
  rintro e w1 ⟨rfl, hk1⟩
  rw [HE.out]
  go_wp2_with fail
  refine Calls.mono (nmay_any _ l _ (EntsAt.keeps H.out hk1)) ?_
  rintro e w2 ⟨rfl, hk2⟩
  rw [HM.out]
  go_wp2_with fail
  go_ret
  exact ⟨rfl, hk1.trans hk2⟩
def bA : ByteArray := ⟨#[97]⟩
def bB : ByteArray := ⟨#[98]⟩
def bXY : ByteArray := ⟨#[120, 47, 121]⟩
theorem wk0 : makeE [] = (⟨#[100, 105, 114, 49, 0, 0]⟩, 0) := by decide +kernel
theorem wk1 : makeE [fileE ⟨#[97]⟩ 0] = (⟨#[100, 105, 114, 49, 0, 1, 0, 1, 97, 0, 0, 0, 0, 0, 0]⟩, 0) := by decide +kernel
theorem wk2 : mayL [fileE ⟨#[97]⟩ 1] = false := by decide +kernel
theorem wk3 : mayL [fileE ⟨#[97]⟩ 0, fileE ⟨#[97]⟩ 0] = false := by decide +kernel
theorem wk4 : mayL [fileE ⟨#[98]⟩ 0, fileE ⟨#[97]⟩ 0] = false := by decide +kernel
theorem wk5 : mayL [fileE ⟨#[120, 47, 121]⟩ 0] = false := by decide +kernel
set_option maxRecDepth 100000 in
set_option maxHeartbeats 8000000 in
theorem works_any (w : World) : Calls Tryd.prog 18 #[] w fun e w' => e = .returned (.bool true) ∧ Keeps w w' := by
  go_enter Tryd.func18, Tryd.ntmps18
  go_wp2_with fail
  refine Calls.mono (nmake_any _ [] _ (RecAt.nil _ _ _)) ?_
  rintro e w1 ⟨rfl, hk1⟩
  rw [wk0]
  have HK := Lib.hid hk1
  clear hk1
  go_wp2_with fail
  refine Calls.mono (file0_any _ _ _) ?_
  rintro e w2 ⟨rfl, hk2⟩
  unfold fileV
  have HK2 := Lib.hid (HK.out.trans hk2)
  clear hk2
  clear HK
  have HK := HK2
  clear HK2
  go_wp2_with fail
  refine Calls.mono (nmake_any _ [fileE ⟨#[97]⟩ 0] _ (ents_lit _ _ _ 1 1 rfl rfl (by decide) (by simp [fileE]))) ?_
  rintro e w3 ⟨rfl, hk3⟩
  rw [wk1]
  have HK2 := Lib.hid (HK.out.trans ((kal _ _).trans hk3))
  clear hk3
  clear HK
  have HK := HK2
  clear HK2
  go_wp2_with fail
  refine Calls.mono (file0_any _ _ _) ?_
  rintro e w2 ⟨rfl, hk2⟩
  unfold fileV
  have HK2 := Lib.hid (HK.out.trans hk2)
  clear hk2
  clear HK
  have HK := HK2
  clear HK2
  go_wp2_with fail
  refine Calls.mono (refused_any _ [fileE ⟨#[97]⟩ 1] _ (ents_lit _ _ _ 1 1 rfl rfl (by decide) (by simp [fileE])) wk2) ?_
  rintro e w3 ⟨rfl, hk3⟩
  have HK2 := Lib.hid (HK.out.trans ((kal _ _).trans hk3))
  clear hk3
  clear HK
  have HK := HK2
  clear HK2
  go_wp2_with fail
  refine Calls.mono (file0_any _ _ _) ?_
  rintro e w2 ⟨rfl, hk2⟩
  unfold fileV
  have HK2 := Lib.hid (HK.out.trans hk2)
  clear hk2
  clear HK
  have HK := HK2
  clear HK2
  go_wp2_with fail
  refine Calls.mono (file0_any _ _ _) ?_
  rintro e w2 ⟨rfl, hk2⟩
  unfold fileV
  have HK2 := Lib.hid (HK.out.trans hk2)
  clear hk2
  clear HK
  have HK := HK2
  clear HK2
  go_wp2_with fail
  refine Calls.mono (refused_any _ [fileE ⟨#[97]⟩ 0, fileE ⟨#[97]⟩ 0] _ (ents_lit _ _ _ 2 2 rfl rfl (by decide) (by simp [fileE])) wk3) ?_
  rintro e w3 ⟨rfl, hk3⟩
  have HK2 := Lib.hid (HK.out.trans ((kal _ _).trans hk3))
  clear hk3
  clear HK
  have HK := HK2
  clear HK2
  go_wp2_with fail
  refine Calls.mono (file0_any _ _ _) ?_
  rintro e w2 ⟨rfl, hk2⟩
  unfold fileV
  have HK2 := Lib.hid (HK.out.trans hk2)
  clear hk2
  clear HK
  have HK := HK2
  clear HK2
  go_wp2_with fail
  refine Calls.mono (file0_any _ _ _) ?_
  rintro e w2 ⟨rfl, hk2⟩
  unfold fileV
  have HK2 := Lib.hid (HK.out.trans hk2)
  clear hk2
  clear HK
  have HK := HK2
  clear HK2
  go_wp2_with fail
  refine Calls.mono (refused_any _ [fileE ⟨#[98]⟩ 0, fileE ⟨#[97]⟩ 0] _ (ents_lit _ _ _ 2 2 rfl rfl (by decide) (by simp [fileE])) wk4) ?_
  rintro e w3 ⟨rfl, hk3⟩
  have HK2 := Lib.hid (HK.out.trans ((kal _ _).trans hk3))
  clear hk3
  clear HK
  have HK := HK2
  clear HK2
  go_wp2_with fail
  refine Calls.mono (file0_any _ _ _) ?_
  rintro e w2 ⟨rfl, hk2⟩
  unfold fileV
  have HK2 := Lib.hid (HK.out.trans hk2)
  clear hk2
  clear HK
  have HK := HK2
  clear HK2
  go_wp2_with fail
  refine Calls.mono (refused_any _ [fileE ⟨#[120, 47, 121]⟩ 0] _ (ents_lit _ _ _ 1 1 rfl rfl (by decide) (by simp [fileE])) wk5) ?_
  rintro e w3 ⟨rfl, hk3⟩
  have HK2 := Lib.hid (HK.out.trans ((kal _ _).trans hk3))
  clear hk3
  clear HK
  have HK := HK2
  clear HK2
  go_wp2_with fail
  go_ret
  exact ⟨rfl, HK.out⟩
end Go.Proofs.YtdpfanifagfciaaDoor
/- Entries with one more behind them: plain. And rows of entries that a call makes. -/
namespace Go.Proofs.YtdpfanifagfciaaDoor
open Go.RowKit
theorem eAt_left {l m : List EntR} {k : Nat} (h : k < l.length) : eAt (l ++ m) k = eAt l k := by
  unfold eAt
  rw [List.getD_eq_getElem?_getD, List.getD_eq_getElem?_getD, List.getElem?_append_left h]
theorem eAt_right {l m : List EntR} {k : Nat} : eAt (l ++ m) (l.length + k) = eAt m k := by
  unfold eAt
  rw [List.getD_eq_getElem?_getD, List.getD_eq_getElem?_getD, List.getElem?_append_right (by omega)]
  congr 2; omega
theorem eAt_last {l : List EntR} {x : EntR} : eAt (l ++ [x]) l.length = x := by
  have := eAt_right (l := l) (m := [x]) (k := 0)
  rw [Nat.add_zero] at this
  rw [this]; rfl
theorem may_single (x : EntR) : mayL [x] = mayE x := by
  unfold mayL
  simp [List.range_succ, okE, eAt]
theorem okE_left {l m : List EntR} {k : Nat} (h : k < l.length) : okE (l ++ m) k = okE l k := by
  unfold okE
  rw [eAt_left h]
  rcases Nat.eq_zero_or_pos k with h0 | h0
  · subst h0; simp
  · rw [eAt_left (k := k - 1) (by omega)]
theorem mayL_all {l : List EntR} (h : mayL l = true) : l.length ≤ 256 ∧ ∀ k, k < l.length → okE l k = true := by
  unfold mayL at h
  rw [Bool.and_eq_true, decide_eq_true_eq, List.all_eq_true] at h
  exact ⟨h.1, fun k hk => h.2 k (List.mem_range.2 hk)⟩
/-- Stands one above all others? -/
def aboveE (l : List EntR) (x : EntR) : Bool := decide (l.length = 0) || lessT (eAt l (l.length - 1)).n x.n
theorem may_more {l : List EntR} (x : EntR) (h : mayL l = true) : mayL (l ++ [x]) = (mayL [x] && aboveE l x && decide (l.length < 256)) := by
  obtain ⟨_, h2⟩ := mayL_all h
  rw [may_single]
  unfold mayL
  rw [List.length_append, List.length_singleton, List.range_succ, List.all_append]
  have e1 : (List.range l.length).all (okE (l ++ [x])) = true := by
    rw [List.all_eq_true]
    intro k hk
    have := List.mem_range.1 hk
    rw [okE_left this]; exact h2 k this
  have e2 : okE (l ++ [x]) l.length = (mayE x && aboveE l x) := by
    unfold okE aboveE
    rw [eAt_last]
    rcases Nat.eq_zero_or_pos l.length with h0 | h0
    · rw [h0]; simp
    · rw [eAt_left (k := l.length - 1) (by omega)]
  rw [e1]
  simp only [List.all_cons, List.all_nil, Bool.and_true, Bool.true_and, e2]
  have e3 : decide (l.length + 1 ≤ 256) = decide (l.length < 256) := decide_eq_decide.2 (by omega)
  rw [e3, Bool.and_comm]
theorem owns_mono {b b' : Nat} {E : TypeId} {k n : Nat} {w : World} {v : Value} {us : List Value} (h : w.ownsRow b E k v n us) (hb : b' ≤ b) : w.ownsRow b' E k v n us := by
  obtain ⟨h1, h2⟩ := h
  refine ⟨h1, ?_⟩
  rcases h2 with h2 | ⟨g, cap, cur, e, hg, r⟩
  · exact .inl h2
  · exact .inr ⟨g, cap, cur, e, Nat.le_trans hb hg, r⟩
/-- One entry, in a new block. -/
theorem ents_one {T : TypeId} (w : World) (x : EntR) (v : Value) (h : SeqAt IsText w.heap v x.c) (hq : ∀ a n q, v = .slice a n q → n ≤ q) : EntsAt (w.alloc (.cells #[.string x.n, .bool x.d, .int .i64 x.z, v] T)).heap (.slice (some ⟨w.heap.size, 0, none⟩) 1 1) [x] := by
  refine ⟨_, 1, rfl, by simp, fun i hi => ⟨w.heap.size, 0, [.string x.n, .bool x.d, .int .i64 x.z, v], rfl, rfl, fun j hj => ?_, ?_⟩⟩
  · have hi0 : i = 0 := by simpa using hi
    subst hi0
    rw [← cell_of, World.cell?_alloc_new, Nat.zero_mul, Nat.zero_add, ← Array.getElem?_toList]
    exact List.getElem?_eq_getElem hj
  · have hi0 : i = 0 := by simpa using hi
    subst hi0
    exact ⟨v, rfl, SeqAt.keeps h (kal _ _), hq⟩
/-- The cells of a list of entries. -/
theorem ents_cells {w : World} {p : Option Addr} {n c : Nat} {l : List EntR} (s : EntsAt w.heap (.slice p n c) l) : ∃ us : List (List Value), us.length = l.length ∧ us.flatten.length = l.length * 4 ∧ (∀ i (h : i < us.length) (h' : i < l.length), us[i].length = 4 ∧ IsEnt w.heap us[i] l[i]) ∧ (∀ u ∈ us.flatten, u.oneCell' = true) ∧
    (0 < l.length → ∃ b o, p = some ⟨b, o, none⟩ ∧ ∀ j (hj : j < us.flatten.length), w.cell? ⟨b, o + j, none⟩ = some us.flatten[j]) := by
  rcases Nat.eq_zero_or_pos l.length with h0 | h0
  · have hl := List.length_eq_zero_iff.1 h0
    subst hl
    exact ⟨[], rfl, rfl, fun i h => absurd h (by simp), fun u hu => by simp at hu, fun h => absurd h (by simp)⟩
  · obtain ⟨b, o, _, _, rfl, _⟩ := ent_cell s h0
    obtain ⟨us, h1, h2, h3, h4⟩ := rec_us s
    refine ⟨us, h1, by rw [flat_length us h2, h1], fun i h h' => ⟨h2 i h, h3 i h h'⟩, fun u hu => ?_, fun _ => ⟨b, o, rfl, fun j hj => by rw [cell_of]; exact h4 j hj⟩⟩
    obtain ⟨ys, hy, hm⟩ := List.mem_flatten.1 hu
    obtain ⟨i, hi, rfl⟩ := List.getElem_of_mem hy
    obtain ⟨v, e, hs, _⟩ := h3 i hi (by omega)
    obtain ⟨pc, qc, rfl⟩ := seq_shape hs
    rw [e] at hm
    simp at hm
    rcases hm with rfl | rfl | rfl | rfl <;> rfl
/-- Own rows of entries' cells read as the entries, whose chunks lie in kept memory. -/
theorem ents_own {w w' : World} {N : Nat} {T : TypeId} {v : Value} {m : Nat} {us : List (List Value)} {l : List EntR} (h : w'.ownsRow N T 4 v m us.flatten) (hm : us.length = m) (hl : us.length = l.length) (hr : ∀ i (h : i < us.length) (h' : i < l.length), us[i].length = 4 ∧ IsEnt w.heap us[i] l[i]) (hk : Keeps w w') (hb : l.length ≤ 9223372036854775807) : EntsAt w'.heap v l := by
  have h1 : OwnRec N T 4 (IsEnt w'.heap) w' v l := ownRec_of h hm hl fun i h h' => ⟨(hr i h h').1, let ⟨v, e, t, c⟩ := (hr i h h').2; ⟨v, e, SeqAt.keeps t hk, c⟩⟩
  exact RecIn.at_ (h1.seq hb)
theorem run_append_none (T E : TypeId) (hT : Tryd.prog.underlying T = some (.slice E)) {i : TypeInfo} (hi : Tryd.prog.info? E = some i) (ty : TypeId) (g : Nat) (p : Option Addr) (c : Nat) (w : World) :
    (Builtin.append_ #[T, T] ty #[.slice (some ⟨g, 0, none⟩) 0 0, .slice p 0 c]).run Tryd.prog w = .ok (.slice (some ⟨g, 0, none⟩) 0 0) w := by
  cases p <;> simp [Builtin.append_, run_underlying hT, sizeOf, typeInfo, hi, Builtin.lenOf, Builtin.firstCells, loadCells, loadCellsFrom, storeCells]
/-- append of records onto a slice of no cells and no room: in new memory, or nothing. -/
theorem oper_freshR {T E : TypeId} {z : Value} {k bytes : Nat} (EL : ElemTyK Tryd.prog T E z k bytes) {w : World} {o : Oper} {a : Act} {K : Act → World → Prop} {Q : Exit → Act → World → Prop} (hgd : o.guard = none) (s x : Operand) (ho : o.op = .call { callee := .builtin .append, args := #[s, x], argTypes := #[T, T] })
    (g N : Nat) (hs : a.eval s = .slice (some ⟨g, 0, none⟩) 0 0) (hown : w.ownsRow N E k (.slice (some ⟨g, 0, none⟩) 0 0) 0 []) (hN : N ≤ w.heap.size) (p : Option Addr) (m c : Nat) (news : List Value) (hx : a.eval x = .slice p m c) (hm : news.length = m * k)
    (hc : 0 < m → ∃ b off, p = some ⟨b, off, none⟩ ∧ ∀ j (h : j < news.length), w.cell? ⟨b, off + j, none⟩ = some news[j]) (hlen : m * bytes ≤ 140737488355328)
    (h : ∀ v' w', w'.ownsRow N E k v' m news → Keeps w w' → K (a.put o.dst v') w') : Oper.wp Tryd.prog o a w K Q := by
  rcases Nat.eq_zero_or_pos m with h0 | h0
  · subst h0
    obtain rfl : news = [] := List.length_eq_zero_iff.1 (by omega)
    obtain ⟨i, h2, _⟩ := info_parts EL.hi
    have hr := run_append_none T E EL.ht h2 o.type g p c w
    unfold Oper.wp execOp
    simp only [ho, resolve, invoke, builtin, Sem.run_bind, Sem.run_pure, Result.andThen_ok, List.map_toArray, List.map_cons, List.map_nil, hs, hx, hr]
    exact h _ _ hown (keeps_refl _)
  · obtain ⟨b, off, rfl, hcc⟩ := hc h0
    refine oper_fresh EL hgd s x ho g hs b off m c news hx hm h0 hcc hlen fun v' w' h2 h3 => h _ _ (owns_mono h2 hN) h3
theorem own_empty0 (w : World) (base : Nat) (e : TypeId) (k : Nat) (hb : base ≤ w.heap.size) : (w.alloc (.cells #[] e)).ownsRow base e k (.slice (some ⟨w.heap.size, 0, none⟩) 0 0) 0 [] :=
  ⟨by simp, .inr ⟨w.heap.size, 0, #[], rfl, hb, by unfold World.alloc; simp, Nat.le_refl _, by simp [maxLen], by simp, by simp⟩⟩
end Go.Proofs.YtdpfanifagfciaaDoor
/- How long a directory's bytes are; unlike entries have unlike bytes. Plain. -/
namespace Go.Proofs.YtdpfanifagfciaaDoor
open Go.RowKit
theorem ofNat_inj {a b : Nat} (h : UInt8.ofNat a = UInt8.ofNat b) : a % 256 = b % 256 := by
  have := congrArg UInt8.toNat h
  simpa using this
theorem numB_one (n : Nat) : numB n 1 = [UInt8.ofNat n] := by simp [numB, numAt, List.range_succ]
theorem numB_two (n : Nat) : numB n 2 = [UInt8.ofNat (n / 256), UInt8.ofNat n] := by simp [numB, numAt, List.range_succ]
theorem numB_four (n : Nat) : numB n 4 = [UInt8.ofNat (n / 16777216), UInt8.ofNat (n / 65536), UInt8.ofNat (n / 256), UInt8.ofNat n] := by simp [numB, numAt, List.range_succ]
theorem numB_inj1 {n m : Nat} (h : numB n 1 = numB m 1) (hn : n < 256) (hm : m < 256) : n = m := by
  rw [numB_one, numB_one] at h
  have := ofNat_inj (List.cons.inj h).1
  omega
theorem numB_inj2 {n m : Nat} (h : numB n 2 = numB m 2) (hn : n < 65536) (hm : m < 65536) : n = m := by
  rw [numB_two, numB_two] at h
  have h0 := ofNat_inj (List.cons.inj h).1
  have h1 := ofNat_inj (List.cons.inj (List.cons.inj h).2).1
  omega
theorem numB_inj4 {n m : Nat} (h : numB n 4 = numB m 4) (hn : n < 16777216) (hm : m < 16777216) : n = m := by
  rw [numB_four, numB_four] at h
  have h1 := ofNat_inj (List.cons.inj (List.cons.inj h).2).1
  have h2 := ofNat_inj (List.cons.inj (List.cons.inj (List.cons.inj h).2).2).1
  have h3 := ofNat_inj (List.cons.inj (List.cons.inj (List.cons.inj (List.cons.inj h).2).2).2).1
  omega
theorem ba_ext {a b : ByteArray} (h : a.data.toList = b.data.toList) : a = b := by
  cases a; cases b; simp only at h; congr 1; exact Array.ext' h
theorem flatC_inj : ∀ {c d : List ByteArray}, (∀ s ∈ c, s.size = 32) → (∀ s ∈ d, s.size = 32) → c.length = d.length → flatC c = flatC d → c = d
  | [], [], _, _, _, _ => rfl
  | [], _ :: _, _, _, h, _ => by simp at h
  | _ :: _, [], _, _, h, _ => by simp at h
  | x :: c, y :: d, hc, hd, hl, h => by
    unfold flatC at h
    rw [List.map_cons, List.map_cons, List.flatten_cons, List.flatten_cons] at h
    obtain ⟨h1, h2⟩ := List.append_inj h (by rw [data_size, data_size, hc x (List.mem_cons_self ..), hd y (List.mem_cons_self ..)])
    rw [ba_ext h1, flatC_inj (fun s hs => hc s (List.mem_cons_of_mem _ hs)) (fun s hs => hd s (List.mem_cons_of_mem _ hs)) (by simpa using hl) h2]
/-- An entry's bytes tell it, whatever follows. -/
theorem entB_inj {x y : EntR} {r s : List UInt8} (hx : mayE x = true) (hy : mayE y = true) (h : entB x ++ r = entB y ++ s) : x = y ∧ r = s := by
  obtain ⟨x1, x2, x3, x4, x5⟩ := mayE_nums hx
  obtain ⟨y1, y2, y3, y4, y5⟩ := mayE_nums hy
  unfold entB at h
  simp only [List.append_assoc] at h
  obtain ⟨e1, h⟩ := List.append_inj h (by rw [numB_length, numB_length])
  obtain ⟨e2, h⟩ := List.append_inj h (by rw [numB_length, numB_length])
  have f2 := numB_inj1 e2 (by omega) (by omega)
  obtain ⟨e3, h⟩ := List.append_inj h (by rw [data_size, data_size, f2])
  obtain ⟨e4, h⟩ := List.append_inj h (by rw [numB_length, numB_length])
  have f4 := numB_inj4 e4 (by omega) (by omega)
  obtain ⟨e5, h⟩ := List.append_inj h (by rw [numB_length, numB_length])
  have f5 := numB_inj2 e5 (by omega) (by omega)
  obtain ⟨e6, h⟩ := List.append_inj h (by rw [flatC_length x5, flatC_length y5, f5])
  refine ⟨?_, h⟩
  have hk := numB_inj1 e1 (by unfold kindB; split <;> omega) (by unfold kindB; split <;> omega)
  have hd : x.d = y.d := by
    unfold kindB at hk
    cases hx : x.d <;> cases hy : y.d <;> simp_all
  have hc := flatC_inj x5 y5 f5 e6
  obtain ⟨xn, xd, xz, xc⟩ := x
  obtain ⟨yn, yd, yz, yc⟩ := y
  simp only at *
  subst hd hc
  rw [ba_ext e3, show xz = yz by omega]
theorem ents_inj : ∀ {l m : List EntR} {r s : List UInt8}, (∀ x ∈ l, mayE x = true) → (∀ x ∈ m, mayE x = true) → l.length = m.length → (l.map entB).flatten ++ r = (m.map entB).flatten ++ s → l = m ∧ r = s
  | [], [], _, _, _, _, _, h => ⟨rfl, by simpa using h⟩
  | [], _ :: _, _, _, _, _, h, _ => by simp at h
  | _ :: _, [], _, _, _, _, h, _ => by simp at h
  | x :: l, y :: m, _, _, hl, hm, hn, h => by
    rw [List.map_cons, List.map_cons, List.flatten_cons, List.flatten_cons, List.append_assoc, List.append_assoc] at h
    obtain ⟨e1, h2⟩ := entB_inj (hl x (List.mem_cons_self ..)) (hm y (List.mem_cons_self ..)) h
    obtain ⟨e3, e4⟩ := ents_inj (fun z hz => hl z (List.mem_cons_of_mem _ hz)) (fun z hz => hm z (List.mem_cons_of_mem _ hz)) (by simpa using hn) h2
    exact ⟨by rw [e1, e3], e4⟩
theorem mayL_mem {l : List EntR} (h : mayL l = true) {x : EntR} (hx : x ∈ l) : mayE x = true := by
  obtain ⟨i, hi, rfl⟩ := mem_eAt hx
  exact mayL_at h hi
/-- Unlike entries have unlike bytes. -/
theorem makeB_inj {l m : List EntR} (hl : mayL l = true) (hm : mayL m = true) (h : makeB l = makeB m) : l = m := by
  have h1 := (mayL_all hl).1
  have h2 := (mayL_all hm).1
  unfold makeB makeTo at h
  simp only [List.append_assoc] at h
  obtain ⟨_, h⟩ := List.append_inj h rfl
  obtain ⟨e, h⟩ := List.append_inj h (by rw [numB_length, numB_length])
  have hn := numB_inj2 e (by omega) (by omega)
  rw [List.take_length, List.take_length] at h
  exact (ents_inj (r := []) (s := []) (fun x hx => mayL_mem hl hx) (fun x hx => mayL_mem hm hx) hn (by simpa using h)).1
/-- How many bytes some entries have. -/
def lenE (l : List EntR) (k : Nat) : Nat := 6 + ((l.take k).map fun x => 8 + x.n.size + 32 * x.c.length).sum
theorem lenE_succ {l : List EntR} {k : Nat} (h : k < l.length) : lenE l (k + 1) = lenE l k + (8 + (eAt l k).n.size + 32 * (eAt l k).c.length) := by
  unfold lenE; rw [take_eAt h]; simp; omega
theorem lenE_le {l : List EntR} (h : ∀ x ∈ l, x.c.length < 3000 ∧ x.n.size < 200000) : ∀ k, k ≤ l.length → lenE l k ≤ 6 + k * 1000000
  | 0, _ => by unfold lenE; simp
  | k + 1, hk => by
    have ih := lenE_le h k (by omega)
    have := h _ (eAt_mem (show k < l.length by omega))
    rw [lenE_succ (by omega)]; omega
theorem makeTo_len {l : List EntR} (h : mayL l = true) : ∀ k, k ≤ l.length → (makeTo l k).length = lenE l k
  | 0, _ => by unfold makeTo lenE; simp [numB_length]
  | k + 1, hk => by
    have ih := makeTo_len h k (by omega)
    rw [makeTo_succ (by omega), List.length_append, entB_length (mayL_at h (by omega)), ih, lenE_succ (by omega)]
/-- What Make tells. -/
theorem makeE_cases (l : List EntR) : (makeE l = (⟨#[]⟩, 4) ∧ mayL l = false) ∨ (makeE l = (⟨#[]⟩, 40) ∧ mayL l = true) ∨ (makeE l = (strB (makeB l), 0) ∧ mayL l = true ∧ (makeB l).length ≤ 16384) := by
  unfold makeE
  cases h : mayL l with
  | false => exact .inl ⟨rfl, rfl⟩
  | true =>
    by_cases h2 : 16384 < (makeB l).length
    · exact .inr (.inl ⟨by simp [h2], rfl⟩)
    · exact .inr (.inr ⟨by simp [h2], rfl, by omega⟩)
end Go.Proofs.YtdpfanifagfciaaDoor
