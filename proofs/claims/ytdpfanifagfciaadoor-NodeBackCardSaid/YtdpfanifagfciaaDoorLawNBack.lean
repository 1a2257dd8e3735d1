/- The walk of the law NodeBack. Printed by gennbk.py. -/
import Derived.Test.YtdpfanifagfciaaDoorNodeD
import Derived.Test.YtdpfanifagfciaaDoorNodeF
import Derived.Test.YtdpfanifagfciaaDoorNodeJ
import Derived.Test.YtdpfanifagfciaaDoorLineG
import Derived.Deep.DeepCutAuto
namespace Go.Proofs.YtdpfanifagfciaaDoor
open Go.RowKit
attribute [local go_sem ↓] Go.wp_at_zero Go.wp_at_succ
theorem rem_small9 (n : Int) (m : Nat) (h : 0 < m) (hm : m ≤ 100000) : ∃ κ : Nat, κ < m ∧ wrap64 ((IntKind.u64.wrap n).tmod (m : Int)) = (κ : Int) := by
  have h0 : 0 ≤ IntKind.u64.wrap n := by unfold IntKind.wrap; simp [IntKind.signed, IntKind.bits]; omega
  have h1 : (IntKind.u64.wrap n).tmod (m : Int) = IntKind.u64.wrap n % (m : Int) := Int.tmod_eq_emod_of_nonneg h0
  have h2 := Int.emod_nonneg (IntKind.u64.wrap n) (show (m : Int) ≠ 0 by omega)
  have h3 := Int.emod_lt_of_pos (IntKind.u64.wrap n) (show (0 : Int) < m by omega)
  rw [h1]
  refine ⟨(IntKind.u64.wrap n % (m : Int)).toNat, by omega, ?_⟩
  unfold wrap64; omega
/-- What node.Read hands out reads as the entries. -/
theorem outN_at {w0 w : World} {v : Value} {l : List EntR} (h : OwnRec w0.heap.size 33 4 (IsEntT (w0.heap.size ≤ ·) w.heap) w v l) (hl : l.length ≤ 9223372036854775807) : EntsAt w.heap v l :=
  (OwnRec.seq h hl).at_.imp (fun _ _ _ e => e) fun _ _ _ x => IsEntT.at_ x
theorem run_appnilK {P : Program} {w : World} (base k : Nat) (t ty e : TypeId) (i : TypeInfo) (ht : P.underlying t = some (.slice e)) (hi : P.info? e = some i)
    (v : Value) (n : Nat) (xs : List Value) (hown : w.ownsRow base e k v n xs) (p : Option Addr) (c : Nat) :
    (Builtin.append_ #[t, t] ty #[v, .slice p 0 c]).run P w = .ok v w := by
  rcases hown.2 with ⟨rfl, rfl⟩ | ⟨g, cap, cur, rfl, _, _, hnc, _⟩
  · cases p <;> simp [Builtin.append_, run_underlying ht, sizeOf, typeInfo, hi, Builtin.lenOf, Builtin.firstCells, loadCells, loadCellsFrom]
  · cases p <;> simp [Builtin.append_, run_underlying ht, sizeOf, typeInfo, hi, Builtin.lenOf, Builtin.firstCells, hnc, storeCells, loadCells, loadCellsFrom]
/-- append of records (none of them, too) onto a row of the call's own. -/
theorem oper_recsA {P : Program} {t e : TypeId} {z : Value} {k bytes : Nat} (EL : ElemTyK P t e z k bytes) {w : World} {o : Oper} {a : Act} {Q : Exit → Act → World → Prop} {K : Act → World → Prop}
    (hgd : o.guard = none) (s x : Operand) (ho : o.op = .call { callee := .builtin .append, args := #[s, x], argTypes := #[t, t] })
    (base : Nat) (v : Value) (n : Nat) (xs : List Value) (hs : a.eval s = v) (hown : w.ownsRow base e k v n xs) (p : Option Addr) (m c : Nat) (news : List Value) (hx : a.eval x = .slice p m c) (hm : news.length = m * k)
    (hc : 0 < m → ∃ b off, p = some ⟨b, off, none⟩ ∧ ∀ j (h : j < news.length), w.cell? ⟨b, off + j, none⟩ = some news[j]) (h1 : ∀ u ∈ news, u.oneCell' = true)
    (hlen : (n + m) * bytes ≤ 140737488355328) (hbase : base ≤ w.heap.size)
    (h : ∀ v' w', w'.ownsRow base e k v' (n + m) (xs ++ news) → Chg (fun q => v.ownBlock = some q) w w' → K (a.put o.dst v') w') : Oper.wp P o a w K Q := by
  rcases Nat.eq_zero_or_pos m with h0 | h0
  · subst h0
    obtain rfl : news = [] := List.length_eq_zero_iff.1 (by omega)
    obtain ⟨i, h2, _⟩ := info_parts EL.hi
    have hr := run_appnilK (w := w) base k t o.type e i EL.ht h2 v n xs hown p c
    unfold Oper.wp
    simp [execOp, ho, resolve, invoke, builtin, hs, hx, hr, Result.andThen]
    exact h _ _ (by simpa using hown) (Chg.refl _ w)
  · obtain ⟨b, off, rfl, hcc⟩ := hc h0
    exact oper_apprs EL hgd s x ho base v n xs hs hown b off m c news hx hm hcc h1 hlen hbase h
/-- One list of entries' cells behind another. -/
theorem ents_both {w w' : World} {N n : Nat} {T : TypeId} {v : Value} {us vs : List (List Value)} {l m : List EntR} (h1 : us.length = l.length) (h2 : ∀ i (h : i < us.length) (h' : i < l.length), us[i].length = 4 ∧ IsEnt w.heap us[i] l[i]) (k1 : vs.length = m.length) (k2 : ∀ i (h : i < vs.length) (h' : i < m.length), vs[i].length = 4 ∧ IsEnt w.heap vs[i] m[i])
    (ho : w'.ownsRow N T 4 v n (us.flatten ++ vs.flatten)) (hn : n = l.length + m.length) (hk : Keeps w w') (hb : l.length + m.length ≤ 9223372036854775807) : EntsAt w'.heap v (l ++ m) := by
  have e : (us ++ vs).flatten = us.flatten ++ vs.flatten := by simp
  rw [← e] at ho
  refine ents_own (w := w) ho (by simp [h1, k1, hn]) (by simp [h1, k1]) (fun i h h' => ?_) hk (by simpa using hb)
  by_cases hi : i < l.length
  · rw [List.getElem_append_left (by omega), List.getElem_append_left hi]
    exact h2 i (by omega) hi
  · rw [List.getElem_append_right (by omega), List.getElem_append_right (by omega)]
    simp only [h1]
    rw [List.length_append] at h h'
    exact k2 _ (by omega) (by omega)
def nbk20 (b o nn q N κ : Nat) (FL : List Value) (LX : List EntR) : Nat → Value → World → Prop
  | 0, v, w => ∃ g, v = .slice (some ⟨g, 0, none⟩) 0 0 ∧ w.ownsRow N 33 4 v 0 []
  | 4, v, w => w.ownsRow N 33 4 v κ (FL.take (κ * 4))
  | 9, v, w => EntsAt w.heap v LX
  | i, v, _ => v = ([undef, .slice (some ⟨b, o, none⟩) nn q, .int .i64 (κ : Int), .slice (some ⟨b, o, none⟩) κ q, undef, .slice (some ⟨b, o, none⟩) nn q, .int .i64 (κ : Int), .int .i64 ((κ : Int) + 1), .slice (if q = κ + 1 then some ⟨b, o, none⟩ else some ⟨b, o + (κ + 1) * 4, none⟩) (nn - (κ + 1)) (q - (κ + 1)), undef, .bool true, .bool false] : List Value).getD i undef
theorem nbk20_kp {b o nn q N κ : Nat} {FL : List Value} {LX : List EntR} (i : Nat) (v : Value) (w w' : World) (c : Keeps w w') (h : nbk20 b o nn q N κ FL LX i v w) : nbk20 b o nn q N κ FL LX i v w' := by
  match i, h with
  | 0, h => exact (let ⟨g, r, ow⟩ := h; ⟨g, r, owns_chgK (T := fun _ => False) ow (Kept.any c) fun _ _ x => x⟩)
  | 1, h => exact h
  | 2, h => exact h
  | 3, h => exact h
  | 4, h => exact owns_chgK (T := fun _ => False) h (Kept.any c) fun _ _ x => x
  | 5, h => exact h
  | 6, h => exact h
  | 7, h => exact h
  | 8, h => exact h
  | 9, h => exact EntsAt.keeps h c
  | 10, h => exact h
  | 11, h => exact h
  | _ + 12, h => exact h
theorem nbk20_sp {b o nn q N κ : Nat} {FL : List Value} {LX : List EntR} (i : Nat) (v : Value) (w w' : World) (h1 : ([0, 4] : List Nat).contains i = false) (h2 : i ≠ 9) (h : nbk20 b o nn q N κ FL LX i v w) : nbk20 b o nn q N κ FL LX i v w' := by
  match i, h1, h2, h with
  | 0, h1, h2, h => exact absurd h1 (by decide)
  | 1, h1, h2, h => exact h
  | 2, h1, h2, h => exact h
  | 3, h1, h2, h => exact h
  | 4, h1, h2, h => exact absurd h1 (by decide)
  | 5, h1, h2, h => exact h
  | 6, h1, h2, h => exact h
  | 7, h1, h2, h => exact h
  | 8, h1, h2, h => exact h
  | 9, h1, h2, h => exact absurd rfl h2
  | 10, h1, h2, h => exact h
  | 11, h1, h2, h => exact h
  | _ + 12, _, _, h => exact h
def nbkA (p1 p2 : Option Addr) (la lb q1 q2 b1 o1 b2 o2 kp : Nat) (Pn Qn : ByteArray) : Nat → Value → Prop
  | i, v => v = ([.slice p2 lb q2, .bool false, .bool true, .bool true, undef, undef, undef, undef, undef, undef, .bool true, .bool true, undef, undef, undef, undef, undef, undef, undef, undef, undef, undef, undef, undef, undef, undef, undef, undef, undef, undef, undef, undef, undef, undef, .bool true] : List Value).getD i undef
def nbkB (p1 p2 : Option Addr) (la lb q1 q2 b1 o1 b2 o2 kp : Nat) (Pn Qn : ByteArray) : Nat → Value → Prop
  | i, v => v = ([.slice p2 lb q2, .bool true, .bool false, .bool false, .slice p1 la q1, .int .i64 (la : Int), .slice p2 lb q2, .int .i64 (lb : Int), .int .i64 ((la : Int) + (lb : Int)), .bool true, .bool true, .bool true, undef, undef, undef, undef, undef, undef, undef, undef, undef, undef, undef, undef, undef, undef, undef, undef, undef, undef, undef, undef, undef, undef, .bool true] : List Value).getD i undef
def nbkC (p1 p2 : Option Addr) (la lb q1 q2 b1 o1 b2 o2 kp : Nat) (Pn Qn : ByteArray) : Nat → Value → Prop
  | i, v => v = ([.slice p2 lb q2, .bool true, .bool false, .bool false, .slice p1 la q1, .int .i64 (la : Int), .slice p2 lb q2, .int .i64 (lb : Int), .int .i64 ((la : Int) + (lb : Int)), .bool false, .bool false, .bool false, .slice p1 la q1, .int .i64 (la : Int), .bool false, .bool false, undef, undef, undef, .bool false, .bool false, undef, undef, undef, undef, undef, undef, undef, undef, undef, undef, undef, undef, .bool false, .bool false] : List Value).getD i undef
def nbkD (p1 p2 : Option Addr) (la lb q1 q2 b1 o1 b2 o2 kp : Nat) (Pn Qn : ByteArray) : Nat → Value → Prop
  | i, v => v = ([.slice p2 lb q2, .bool true, .bool false, .bool false, .slice p1 la q1, .int .i64 (la : Int), .slice p2 lb q2, .int .i64 (lb : Int), .int .i64 ((la : Int) + (lb : Int)), .bool false, .bool false, .bool false, .slice p1 la q1, .int .i64 (la : Int), .bool true, .bool true, .slice p2 lb q2, .int .i64 (lb : Int), .bool false, .bool false, .bool false, undef, undef, undef, undef, undef, undef, undef, undef, undef, undef, undef, undef, .bool false, .bool false] : List Value).getD i undef
def nbkE (p1 p2 : Option Addr) (la lb q1 q2 b1 o1 b2 o2 kp : Nat) (Pn Qn : ByteArray) : Nat → Value → Prop
  | i, v => v = ([.slice (some ⟨b2, o2, none⟩) lb q2, .bool true, .bool false, .bool false, .slice (some ⟨b1, o1, none⟩) la q1, .int .i64 (la : Int), .slice (some ⟨b2, o2, none⟩) lb q2, .int .i64 (lb : Int), .int .i64 ((la : Int) + (lb : Int)), .bool false, .bool false, .bool false, .slice (some ⟨b1, o1, none⟩) la q1, .int .i64 (la : Int), .bool true, .bool true, .slice (some ⟨b2, o2, none⟩) lb q2, .int .i64 (lb : Int), .bool true, .bool true, .bool true, .slice (some ⟨b1, o1, none⟩) la q1, .slice (some ⟨b1, o1, none⟩) la q1, .int .i64 (la : Int), .int .i64 (kp : Int), .pointer (some ⟨b1, o1 + kp * 4, none⟩), .pointer (some ⟨b1, o1 + kp * 4, none⟩), .string Pn, .slice (some ⟨b2, o2, none⟩) lb q2, .pointer (some ⟨b2, o2, none⟩), .pointer (some ⟨b2, o2, none⟩), .string Qn, .bool true, .bool true, .bool true] : List Value).getD i undef
def nbkF (p1 p2 : Option Addr) (la lb q1 q2 b1 o1 b2 o2 kp : Nat) (Pn Qn : ByteArray) : Nat → Value → Prop
  | i, v => v = ([.slice (some ⟨b2, o2, none⟩) lb q2, .bool true, .bool false, .bool false, .slice (some ⟨b1, o1, none⟩) la q1, .int .i64 (la : Int), .slice (some ⟨b2, o2, none⟩) lb q2, .int .i64 (lb : Int), .int .i64 ((la : Int) + (lb : Int)), .bool false, .bool false, .bool false, .slice (some ⟨b1, o1, none⟩) la q1, .int .i64 (la : Int), .bool true, .bool true, .slice (some ⟨b2, o2, none⟩) lb q2, .int .i64 (lb : Int), .bool true, .bool true, .bool true, .slice (some ⟨b1, o1, none⟩) la q1, .slice (some ⟨b1, o1, none⟩) la q1, .int .i64 (la : Int), .int .i64 (kp : Int), .pointer (some ⟨b1, o1 + kp * 4, none⟩), .pointer (some ⟨b1, o1 + kp * 4, none⟩), .string Pn, .slice (some ⟨b2, o2, none⟩) lb q2, .pointer (some ⟨b2, o2, none⟩), .pointer (some ⟨b2, o2, none⟩), .string Qn, .bool false, .bool false, .bool false] : List Value).getD i undef
set_option maxRecDepth 100000 in
set_option maxHeartbeats 8000000 in
theorem nodeback_any (v : Value) (l : List EntR) (u : Value) (m : List EntR) (s : ByteArray) (n : Int) (w : World) (h : EntsAt w.heap v l) (hw : WeighE l) (hm : EntsAt w.heap u m) (hwm : WeighE m) : Calls Tryd.prog 13 #[v, u, .string s, .int .i64 n] w fun e w' => e = .returned (.bool true) ∧ Keeps w w' := by
  obtain ⟨p, q, rfl⟩ := rec_shape h
  obtain ⟨p2, q2, rfl⟩ := rec_shape hm
  have H := Lib.hid h
  have HW := Lib.hid hw
  have HM := Lib.hid hm
  have HWM := Lib.hid hwm
  clear h hw hm hwm
  have WK : Hid (∀ wx, Keeps w wx → Calls Tryd.prog 18 #[] wx fun e w' => e = .returned (.bool true) ∧ Keeps w w') := fun wx hk => (works_any wx).mono fun e w' ⟨a, b⟩ => ⟨a, hk.trans b⟩
  go_enter Tryd.func13, Tryd.ntmps13
  go_wp2_with fail
  refine Calls.mono (works_any _) ?_
  rintro e w1 ⟨rfl, hk1⟩
  have HK1 := Lib.hid hk1
  clear hk1
  go_wp2_with fail
  refine Calls.mono (large_any _ l _ (EntsAt.keeps H.out HK1.out) HW.out) ?_
  rintro e w2 ⟨rfl, hk2⟩
  have HK2 := Lib.hid (HK1.out.trans hk2)
  clear hk2
  cases hL : largeL l with
  | true =>
    clear hL
    go_wp2_with fail
    refine Calls.mono (WK.out _ HK2.out) ?_
    rintro e w9 ⟨rfl, hk9⟩
    go_wp2_with fail
    go_ret
    exact ⟨rfl, hk9⟩
  | false =>
  have hln := (largeL_no hL).1
  have HNU := Lib.hid (largeL_num hL)
  clear hL
  go_wp2_with fail
  refine Calls.mono (large_any _ m _ (EntsAt.keeps HM.out HK2.out) HWM.out) ?_
  rintro e w3 ⟨rfl, hk3⟩
  have HK3 := Lib.hid (HK2.out.trans hk3)
  clear hk3
  cases hL : largeL m with
  | true =>
    clear hL
    go_wp2_with fail
    refine Calls.mono (WK.out _ HK3.out) ?_
    rintro e w9 ⟨rfl, hk9⟩
    go_wp2_with fail
    go_ret
    exact ⟨rfl, hk9⟩
  | false =>
  have hlm := (largeL_no hL).1
  have HNM := Lib.hid (largeL_num hL)
  clear hL
  by_cases h20 : 20000 < s.size
  · have g1 : decide ((20000 : Int) < (s.size : Int)) = true := decide_eq_true (by omega)
    go_wp2_with fail
    refine Calls.mono (WK.out _ HK3.out) ?_
    rintro e w9 ⟨rfl, hk9⟩
    go_wp2_with fail
    go_ret
    exact ⟨rfl, hk9⟩
  have g1 : decide ((20000 : Int) < (s.size : Int)) = false := decide_eq_false (by omega)
  go_wp2_with fail
  refine Calls.mono (nread_any s _ (by omega)) ?_
  rintro e w4 ⟨hk4, hr⟩
  have HK4 := Lib.hid (HK3.out.trans hk4)
  have HSD : Hid (s.data.toList.length = s.size) := data_size s
  obtain ⟨vl, cd, rfl, hcase⟩ : ∃ (vl : Value) (cd : Int), e = .returned (.tuple #[vl, .int .i64 cd]) ∧ (cd = 4 ∨ (cd = 0 ∧ ∃ ls, mayL ls = true ∧ makeE ls = (s, 0) ∧ EntsAt w4.heap vl ls)) := by
    rcases hr with ⟨_, rfl⟩ | ⟨ls, v9, hr1, rfl, hr2⟩
    · exact ⟨_, _, rfl, .inl rfl⟩
    · obtain ⟨a1, a2, a3⟩ := readP_some.1 hr1
      have a4 := (mayL_all a1).1
      refine ⟨_, _, rfl, .inr ⟨rfl, ls, a1, ?_, outN_at hr2 (by omega)⟩⟩
      unfold makeE
      rw [a1, a3, if_pos rfl, if_neg (by omega), strB_data]
  have HCS := Lib.hid hcase
  clear hcase hr hk4
  go_upto_if 42 with fail
  go_cut [] (fun wx => Hid (Keeps w wx))
  case first =>
    rcases HCS.out with rfl | ⟨rfl, ls, hl1, hl2, hl3⟩
    · clear HCS
      go_wp2_with fail
      go_meet
      exact HK4
    · have HL1 := Lib.hid hl1
      have HL2 := Lib.hid hl2
      have HL3 := Lib.hid hl3
      have q0 : (s.toList == s.toList) = true := by simp
      clear HCS hl1 hl2 hl3
      go_wp2_with fail
      refine Calls.mono (nmake_any _ ls _ HL3.out) ?_
      rintro e w5 ⟨rfl, hk5⟩
      rw [HL2.out]
      dsimp only
      have HL5 := Lib.hid (EntsAt.keeps HL3.out hk5)
      have HK5 := Lib.hid (HK4.out.trans hk5)
      clear hk5
      go_wp2_with fail
      refine Calls.mono (nmay_any _ ls _ HL5.out) ?_
      rintro e w6 ⟨rfl, hk6⟩
      rw [HL1.out]
      have HK6 := Lib.hid (HK5.out.trans hk6)
      clear hk6
      go_wp2_with fail
      go_meet
      exact HK6
  case rest =>
  obtain ⟨wx, rfl⟩ : ∃ wy : World, wy = wc := ⟨_, rfl⟩
  have HKX := hcut
  clear hcut HCS HK4 HK1 HK2 HK3 g1 HSD h20
  go_wp2_with fail
  refine Calls.mono (given_cap _ l _ (EntsAt.keeps H.out HKX.out) HNU.out) ?_
  rintro e w5 ⟨v13, rfl, h13, hq13, hk5⟩
  obtain ⟨p3, q3, rfl⟩ := rec_shape h13
  have HQ3 : Hid (l.length ≤ q3) := hq13 _ _ _ rfl
  have H5 := Lib.hid h13
  have HK5 := Lib.hid (HKX.out.trans hk5)
  clear h13 hq13 hk5
  go_wp2_with fail
  refine Calls.mono (nmake_any _ l _ H5.out) ?_
  rintro e w6 ⟨rfl, hk6⟩
  have H6 := Lib.hid (EntsAt.keeps H5.out hk6)
  have HK6 := Lib.hid (HK5.out.trans hk6)
  obtain ⟨X, hX⟩ : ∃ X, makeE l = X := ⟨_, rfl⟩
  obtain ⟨TX, EX⟩ := X
  rw [hX]
  dsimp only
  have HX := Lib.hid hX
  clear hX hk6
  have HXC : Hid ((TX = strB (makeB l) ∧ EX = 0 ∧ mayL l = true ∧ (makeB l).length ≤ 16384) ∨ (EX = 4 ∧ mayL l = false) ∨ (EX = 40 ∧ mayL l = true)) := by
    rcases makeE_cases l with ⟨e1, e2⟩ | ⟨e1, e2⟩ | ⟨e1, e2, e3⟩ <;> rw [HX.out] at e1 <;> obtain ⟨r1, r2⟩ := Prod.mk.inj e1
    · exact .inr (.inl ⟨r2, e2⟩)
    · exact .inr (.inr ⟨r2, e2⟩)
    · exact .inl ⟨r1, r2, e2, e3⟩
  clear HX
  go_upto_if 68 with fail
  go_cut [] (fun wx => Hid (Keeps w wx) ∧ Hid (EntsAt wx.heap (.slice p3 l.length q3) l))
  case first =>
    rcases HXC.out with ⟨rfl, rfl, x1, x2⟩ | ⟨rfl, _⟩ | ⟨rfl, _⟩
    · have HX1 := Lib.hid x1
      have hsz : (strB (makeB l)).size ≤ 16384 := by rw [strB_size]; exact x2
      have gz : decide ((16384 : Int) < ((strB (makeB l)).size : Int)) = false := decide_eq_false (by omega)
      have HRP : Hid (readP (strB (makeB l)).data.toList = some l) := by show _ = _; exact readP_some.2 ⟨x1, x2, rfl⟩
      clear HXC x1 x2
      generalize strB (makeB l) = TT at *
      go_wp2_with fail
      refine Calls.mono (nread_any TT _ (by omega)) ?_
      rintro e w7 ⟨hk7, hr⟩
      have HK7 := Lib.hid (HK6.out.trans hk7)
      have H7 := Lib.hid (EntsAt.keeps H6.out hk7)
      rcases hr with ⟨hr, _⟩ | ⟨ls, v9, hr1, rfl, hr2⟩
      · rw [HRP.out] at hr; cases hr
      rw [HRP.out] at hr1
      obtain rfl := Option.some.inj hr1
      have HE9 := Lib.hid (outN_at hr2 (by omega))
      have HSM : Hid (sameE l l = true) := decide_eq_true rfl
      clear hr1 hr2 hk7
      go_wp2_with fail
      refine Calls.mono (nsame_any _ _ l l _ HE9.out H7.out) ?_
      rintro e w8 ⟨rfl, hk8⟩
      rw [HSM.out]
      have HK8 := Lib.hid (HK7.out.trans hk8)
      have H8 := Lib.hid (EntsAt.keeps H7.out hk8)
      clear hk8
      go_wp2_with fail
      go_meet
      exact ⟨HK8, H8⟩
    · clear HXC
      go_wp2_with fail
      go_meet
      exact ⟨HK6, H6⟩
    · clear HXC
      go_wp2_with fail
      go_meet
      exact ⟨HK6, H6⟩
  case rest =>
  obtain ⟨wy, rfl⟩ : ∃ wy : World, wy = wc := ⟨_, rfl⟩
  obtain ⟨HKY, HY⟩ := hcut
  clear HK6 H6 HK5 H5 HKX
  go_wp2_with fail
  refine Calls.mono (nmay_any _ l _ HY.out) ?_
  rintro e w7 ⟨rfl, hk7⟩
  have HK7 := Lib.hid (HKY.out.trans hk7)
  have H7 := Lib.hid (EntsAt.keeps HY.out hk7)
  clear hk7 HKY HY
  have HMC0 : Hid (∀ wx, Keeps w7 wx → Calls Tryd.prog 22 #[.slice p3 l.length q3] wx fun e w' => e = .returned (.bool (mayL l)) ∧ Keeps wx w') := fun wx hk => nmay_any _ l wx (EntsAt.keeps H7.out hk)
  cases hM : mayL l with
  | false =>
    obtain rfl : EX = 4 := by rcases HXC.out with ⟨_, _, x, _⟩ | ⟨x, _⟩ | ⟨_, x⟩ <;> first | exact x | (rw [hM] at x; cases x)
    rw [hM] at HMC0
    clear HXC hM
    go_wp2_with fail
    refine Calls.mono (HMC0.out _ (keeps_refl _)) ?_
    rintro e w8 ⟨rfl, hk8⟩
    have HK8 := Lib.hid (HK7.out.trans hk8)
    clear hk8
    go_wp2_with fail
    go_ret
    exact ⟨rfl, HK8.out⟩
  | true =>
  have hE : ¬ EX = 4 := by rcases HXC.out with ⟨_, x, _⟩ | ⟨_, x⟩ | ⟨x, _⟩ <;> first | (rw [hM] at x; cases x) | omega
  have gE : (EX == 4) = false := beq_false_of_ne hE
  have gE2 : decide (EX = 4) = false := decide_eq_false hE
  have HML := Lib.hid hM
  rw [hM] at HMC0
  clear HXC hM
  go_wp2_with fail
  refine Calls.mono (HMC0.out _ (keeps_refl _)) ?_
  rintro e w8 ⟨rfl, hk8⟩
  have HK8 := Lib.hid (HK7.out.trans hk8)
  have H8 := Lib.hid (EntsAt.keeps H7.out hk8)
  clear hk8 HMC0 H7 HK7 hE gE gE2
  go_upto_if 97 with fail
  go_cut [] (fun wx => Hid (Keeps w wx) ∧ Hid (EntsAt wx.heap (.slice p3 l.length q3) l))
  case first =>
    by_cases h0 : l.length = 0
    · have g1 : decide ((0 : Int) < (l.length : Int)) = false := decide_eq_false (by omega)
      have g2 : ¬ ((0 : Int) < (l.length : Int)) := by omega
      clear h0
      go_wp2_with fail
      go_meet
      exact ⟨HK8, H8⟩
    have g1 : decide ((0 : Int) < (l.length : Int)) = true := decide_eq_true (by omega)
    have g2 : ((0 : Int) < (l.length : Int)) := by omega
    have g3 : ((l.length : Int) == 0) = false := beq_false_of_ne (by omega)
    have g4 : ¬ ((l.length : Int) = 0) := by omega
    obtain ⟨κ, hκ, hke⟩ := rem_small9 n l.length (by omega) (by omega)
    obtain ⟨b, o, _, _, rfl, _⟩ := ent_cell H8.out (i := 0) (by omega)
    obtain ⟨us, hu1, hu2, hu3, hu4, hu5⟩ := ents_cells H8.out
    obtain ⟨b9, o9, e9, hc9⟩ := hu5 (by omega)
    simp only [Option.some.injEq, Addr.mk.injEq, and_true] at e9
    obtain ⟨rfl, rfl⟩ := e9
    obtain ⟨us9, hv1, hv2, hv3, hv4⟩ := cut_recs (k := 4) (R := IsEnt w8.heap) hκ hu1 (fun i h => (hu3 i h (by omega)).1) (fun i h h9 => (hu3 i h h9).2)
    have HFL := Lib.hid hu2
    have HFC := Lib.hid hc9
    have HF1 := Lib.hid hu4
    have HKQ : Hid (κ < l.length ∧ l.length < 3000 ∧ l.length ≤ q3) := ⟨hκ, hln, HQ3.out⟩
    have HOW : Hid (∀ v' w', w'.ownsRow w8.heap.size 33 4 v' (κ + (l.length - (κ + 1))) (us.flatten.take (κ * 4) ++ us.flatten.drop ((κ + 1) * 4)) → Keeps w8 w' → EntsAt w'.heap v' (l.take κ ++ l.drop (κ + 1))) := fun v' w' ho hk => by
      rw [hv1] at ho
      exact ents_own (w := w8) ho (by rw [hv2]; omega) hv3 hv4 hk (by simp; omega)
    have HM9 : Hid (mayL (l.take κ ++ l.drop (κ + 1)) = true) := may_cut HML.out hκ
    have hkk : (κ : Int) < (l.length : Int) := by omega
    clear hu1 hu2 hu3 hu4 hu5 hc9 hv1 hv2 hv3 hv4 hκ h0
    go_upto_region 20 with fail
    rw [hke]
    clear hke g1 g2 g3 g4 hkk
    refine wp_region_lineG [105, 106, 107, 108, 109, 110, 111, 112, 113, 114, 115, 116] [[], [], [], [1, 2], [0, 3], [], [], [6], [5, 7], [4, 8], [9], [10]] [[], [], [], [], [0], [], [], [], [], [0, 4], [], []] [] (nbk20 b o l.length q3 w8.heap.size κ us.flatten (l.take κ ++ l.drop (κ + 1))) (by kernel_rfl) (by kernel_rfl) (by kernel_rfl) (by kernel_rfl) (by kernel_rfl) (by kernel_rfl) ?_ ?_ ?_
    · refine ⟨?_, ?_, ?_, ?_, ?_, ?_, ?_, ?_, ?_, ?_, ?_, ?_, trivial⟩
      · exact fun g b h => by (cases h)
      · exact fun g b h => by (cases h)
      · exact fun g b h => by (cases h)
      · exact fun g b h => by (cases h)
      · exact fun g b h => by (cases h)
      · exact fun g b h => by (cases h)
      · exact fun g b h => by (cases h)
      · exact fun g b h => by (cases h)
      · exact fun g b h => by (cases h)
      · exact fun g b h => by (cases h)
      · exact fun g b h => by (cases h)
      · exact fun g b h => by (cases h)
    · refine ⟨?_, ?_, ?_, ?_, ?_, ?_, ?_, ?_, ?_, ?_, ?_, ?_, trivial⟩
      · intro _ a w1 vs hk ho hn K hK
        clear hn ho
        go_simp
        have KK := kal w1 (.cells #[] 33)
        exact hK _ _ (hk.trans KK) (fun j u _ _ _ _ h => nbk20_kp j u _ _ KK h) ⟨_, rfl, own_empty0 w1 w8.heap.size 33 4 hk.size⟩
      · intro _ a w1 vs hk ho hn K hK
        have e13 : a.tmps[13]? = some (.slice (some ⟨b, o, none⟩) l.length q3) := ho 13 rfl
        clear hn ho
        go_simp
        exact hK _ _ hk (fun _ _ _ _ _ _ h => h) rfl
      · intro _ a w1 vs hk ho hn K hK
        have e18 : a.tmps[18]? = some (.int .i64 (κ : Int)) := ho 18 rfl
        clear hn ho
        go_simp
        exact hK _ _ hk (fun _ _ _ _ _ _ h => h) rfl
      · intro _ a w1 vs hk ho hn K hK
        obtain ⟨e106, g106⟩ : a.tmps[106]? = some (vs 1) ∧ vs 1 = .slice (some ⟨b, o, none⟩) l.length q3 := hn 1 (by decide)
        rw [g106] at e106
        clear g106
        obtain ⟨e107, g107⟩ : a.tmps[107]? = some (vs 2) ∧ vs 2 = .int .i64 (κ : Int) := hn 2 (by decide)
        rw [g107] at e107
        clear g107
        clear hn ho
        have f1 : (0 : Int) ≤ (κ : Int) := by omega
        have f2 : (κ : Int) ≤ (q3 : Int) := by have := HKQ.out; omega
        have f3 : κ ≤ q3 := by have := HKQ.out; omega
        go_simp
        exact hK _ _ hk (fun _ _ _ _ _ _ h => h) rfl
      · intro _ a w1 vs hk ho hn K hK
        obtain ⟨e105, g105⟩ : a.tmps[105]? = some (vs 0) ∧ ∃ g, (vs 0) = .slice (some ⟨g, 0, none⟩) 0 0 ∧ w1.ownsRow w8.heap.size 33 4 (vs 0) 0 [] := hn 0 (by decide)
        obtain ⟨e108, g108⟩ : a.tmps[108]? = some (vs 3) ∧ vs 3 = .slice (some ⟨b, o, none⟩) κ q3 := hn 3 (by decide)
        rw [g108] at e108
        clear g108
        clear hn ho
        obtain ⟨g, r, ow⟩ := g105
        rw [r] at e105 ow
        have hls : (us.flatten.take (κ * 4)).length = κ * 4 := by have := HFL.out; have := HKQ.out; rw [List.length_take]; omega
        refine oper_freshR elEntG rfl (.tmp 105) (.tmp 108) rfl g w8.heap.size (by simp [Act.eval, e105]) ow hk.size (some ⟨b, o, none⟩) κ q3 (us.flatten.take (κ * 4)) (by simp [Act.eval, e108]) hls (fun _ => ⟨b, o, rfl, fun j hj => by rw [List.getElem_take]; exact keeps_cell hk (HFC.out j _)⟩) (by have := HKQ.out; omega) ?_
        intro v' w' ow2 KK
        exact hK v' w' (hk.trans KK) (fun j u _ _ _ _ h => nbk20_kp j u _ _ KK h) ow2
      · intro _ a w1 vs hk ho hn K hK
        have e13 : a.tmps[13]? = some (.slice (some ⟨b, o, none⟩) l.length q3) := ho 13 rfl
        clear hn ho
        go_simp
        exact hK _ _ hk (fun _ _ _ _ _ _ h => h) rfl
      · intro _ a w1 vs hk ho hn K hK
        have e18 : a.tmps[18]? = some (.int .i64 (κ : Int)) := ho 18 rfl
        clear hn ho
        go_simp
        exact hK _ _ hk (fun _ _ _ _ _ _ h => h) rfl
      · intro _ a w1 vs hk ho hn K hK
        obtain ⟨e111, g111⟩ : a.tmps[111]? = some (vs 6) ∧ vs 6 = .int .i64 (κ : Int) := hn 6 (by decide)
        rw [g111] at e111
        clear g111
        clear hn ho
        have f4 : IntKind.i64.wrap ((κ : Int) + 1) = (κ : Int) + 1 := IntWalk.i64_in _ (by have := HKQ.out; omega)
        go_simp
        exact hK _ _ hk (fun _ _ _ _ _ _ h => h) rfl
      · intro _ a w1 vs hk ho hn K hK
        obtain ⟨e110, g110⟩ : a.tmps[110]? = some (vs 5) ∧ vs 5 = .slice (some ⟨b, o, none⟩) l.length q3 := hn 5 (by decide)
        rw [g110] at e110
        clear g110
        obtain ⟨e112, g112⟩ : a.tmps[112]? = some (vs 7) ∧ vs 7 = .int .i64 ((κ : Int) + 1) := hn 7 (by decide)
        rw [g112] at e112
        clear g112
        clear hn ho
        have f1 : (0 : Int) ≤ (κ : Int) + 1 := by omega
        have f2 : (κ : Int) + 1 ≤ (l.length : Int) := by have := HKQ.out; omega
        have f3 : ((κ : Int) + 1).toNat = κ + 1 := by omega
        have f5 : κ + 1 ≤ l.length := by have := HKQ.out; omega
        go_simp
        exact hK _ _ hk (fun _ _ _ _ _ _ h => h) rfl
      · intro _ a w1 vs hk ho hn K hK
        obtain ⟨e109, g109⟩ : a.tmps[109]? = some (vs 4) ∧ w1.ownsRow w8.heap.size 33 4 (vs 4) κ (us.flatten.take (κ * 4)) := hn 4 (by decide)
        obtain ⟨e113, g113⟩ : a.tmps[113]? = some (vs 8) ∧ vs 8 = .slice (if q3 = κ + 1 then some ⟨b, o, none⟩ else some ⟨b, o + (κ + 1) * 4, none⟩) (l.length - (κ + 1)) (q3 - (κ + 1)) := hn 8 (by decide)
        rw [g113] at e113
        clear g113
        clear hn ho
        have hld : (us.flatten.drop ((κ + 1) * 4)).length = (l.length - (κ + 1)) * 4 := by have := HFL.out; have := HKQ.out; rw [List.length_drop]; omega
        obtain ⟨off, hoff, hcell⟩ : ∃ off, (if q3 = κ + 1 then some (⟨b, o, none⟩ : Addr) else some ⟨b, o + (κ + 1) * 4, none⟩) = some ⟨b, off, none⟩ ∧ ∀ j (h : j < (us.flatten.drop ((κ + 1) * 4)).length), w1.cell? ⟨b, off + j, none⟩ = some (us.flatten.drop ((κ + 1) * 4))[j] := by
          by_cases hq : q3 = κ + 1
          · exact ⟨o, if_pos hq, fun j h => absurd h (by rw [hld]; have := HKQ.out; omega)⟩
          · exact ⟨_, if_neg hq, fun j h => by rw [List.getElem_drop, Nat.add_assoc]; exact keeps_cell hk (HFC.out _ _)⟩
        rw [hoff] at e113
        clear hoff
        refine oper_apprs elEntG rfl (.tmp 109) (.tmp 113) rfl w8.heap.size (vs 4) κ (us.flatten.take (κ * 4)) (by simp [Act.eval, e109]) g109 b off (l.length - (κ + 1)) (q3 - (κ + 1)) (us.flatten.drop ((κ + 1) * 4)) (by simp [Act.eval, e113]) hld hcell (fun u hu => HF1.out u (List.mem_of_mem_drop hu)) (by have := HKQ.out; omega) hk.size ?_
        intro v' w' ho hc
        have KK : Keeps w8 w' := hk.then (chg_kept (B := w8.heap.size) hc (fun q3 _ e => (own_blockK g109 q3 e).1) hk.size) (Nat.le_refl _)
        exact hK v' w' KK (fun j u h1 h2 _ _ h => nbk20_sp j u _ _ h1 h2 h) (HOW.out v' w' ho KK)
      · intro _ a w1 vs hk ho hn K hK
        obtain ⟨e114, g114⟩ : a.tmps[114]? = some (vs 9) ∧ EntsAt w1.heap (vs 9) (l.take κ ++ l.drop (κ + 1)) := hn 9 (by decide)
        clear hn ho
        go_simp
        refine Calls.mono (nmay_any _ ((l.take κ ++ l.drop (κ + 1))) _ g114) ?_
        rintro e w' ⟨rfl, KK⟩
        rw [HM9.out]
        go_simp
        exact hK _ _ (hk.trans KK) (fun j u _ _ _ _ h => nbk20_kp j u _ _ KK h) rfl
      · intro _ a w1 vs hk ho hn K hK
        obtain ⟨e115, g115⟩ : a.tmps[115]? = some (vs 10) ∧ vs 10 = .bool true := hn 10 (by decide)
        rw [g115] at e115
        clear g115
        clear hn ho
        go_simp
        exact hK _ _ hk (fun _ _ _ _ _ _ h => h) rfl
    · intro vs wE hI hG
      have eL11 : vs 11 = .bool false := hG 11 (by decide) (by decide)
      have HKE := Lib.hid hI
      clear hG hI
      simp only [setAll, Nat.zero_add, Nat.reduceAdd, List.setIfInBounds_toArray, List.set_cons_zero, List.set_cons_succ, eL11]
      clear eL11
      generalize vs 0 = y0 at *
      generalize vs 1 = y1 at *
      generalize vs 2 = y2 at *
      generalize vs 3 = y3 at *
      generalize vs 4 = y4 at *
      generalize vs 5 = y5 at *
      generalize vs 6 = y6 at *
      generalize vs 7 = y7 at *
      generalize vs 8 = y8 at *
      generalize vs 9 = y9 at *
      generalize vs 10 = y10 at *
      have HKW := Lib.hid (HK8.out.trans HKE.out)
      have HEW := Lib.hid (EntsAt.keeps H8.out HKE.out)
      clear HKE
      go_wp2_with fail
      go_meet
      exact ⟨HKW, HEW⟩
  case rest =>
  obtain ⟨wz, rfl⟩ : ∃ wy : World, wy = wc := ⟨_, rfl⟩
  obtain ⟨HKZ, HZ⟩ := hcut
  clear HK8 H8
  go_wp2_with fail
  refine Calls.mono (given_any _ m _ (EntsAt.keeps HM.out HKZ.out) HNM.out) ?_
  rintro e wg ⟨v19, rfl, h19, hk9⟩
  obtain ⟨p4, q4, rfl⟩ := rec_shape h19
  have H9 := Lib.hid (EntsAt.keeps HZ.out hk9)
  have HN := Lib.hid h19
  have HK9 := Lib.hid (HKZ.out.trans hk9)
  clear h19 hk9 HKZ HZ
  have HMC : Hid (∀ wx, Keeps wg wx → Calls Tryd.prog 22 #[.slice p4 m.length q4] wx fun e w' => e = .returned (.bool (mayL m)) ∧ Keeps wx w') := fun wx hk => nmay_any _ m wx (EntsAt.keeps HN.out hk)
  have HW0 : Hid (IntKind.i64.wrap ((l.length : Int) + (m.length : Int)) = (l.length : Int) + (m.length : Int)) := IntWalk.i64_in _ (by omega)
  go_upto_region 23 with fail
  cases hmm : mayL m with
  | false =>
    rw [hmm] at HMC
    clear hmm
    refine wp_region_stage [119, 120, 121, 122, 123, 124, 125, 126, 127, 128, 129, 130, 131, 132, 133, 134, 135, 136, 137, 138, 139, 140, 141, 142, 143, 144, 145, 146, 147, 148, 149, 150, 151, 152, 153] [[], [0], [1], [2], [3], [3], [3], [3], [3], [3], [3, 9], [10], [11], [11], [11], [11], [15], [15], [15], [11], [11], [20], [20], [20], [20], [20], [20], [20], [20], [20], [20], [20], [20], [11], [11, 33]] [] [0, 0, 0, 0, 0, 0, 0, 0, 0, 0, 0, 0, 0, 0, 0, 0, 0, 0, 0, 0, 0, 0, 0, 0, 0, 0, 0, 0, 0, 0, 0, 0, 0, 0, 0] [4, 5, 6, 7, 8, 9, 12, 13, 14, 15, 16, 17, 18, 19, 20, 21, 22, 23, 24, 25, 26, 27, 28, 29, 30, 31, 32, 33] (fun i v _ => nbkA p3 p4 l.length m.length q3 q4 0 0 0 0 0 ⟨#[]⟩ ⟨#[]⟩ i v) (fun w w' => Keeps w w') (fun _ _ w' => Keeps wg w') (by kernel_rfl) (by kernel_rfl) (by kernel_rfl) (by kernel_rfl) (by kernel_rfl) (by kernel_rfl) (by kernel_rfl) ?_ ?_ ?_ ?_ ?_ ?_ ?_
    · exact fun i v w w' c h => h
    · exact fun w => keeps_refl w
    · exact fun i s vs w _ h => h
    · refine ⟨?_, ?_, ?_, ?_, ?_, ?_, ?_, ?_, ?_, ?_, ?_, ?_, ?_, ?_, ?_, ?_, ?_, ?_, ?_, ?_, ?_, ?_, ?_, ?_, ?_, ?_, ?_, ?_, ?_, ?_, ?_, ?_, ?_, ?_, ?_, trivial⟩
      · exact fun g b h => by (cases h)
      · exact fun g b h => by (cases h)
      · exact fun g b h => by (cases h)
      · exact fun g b h => by (cases h)
      · exact ⟨⟨_, _, rfl, by decide, fun v w h => by (first | (change v = _ at h; subst h; intro x; cases x) | skip)⟩, fun w => rfl⟩
      · exact ⟨⟨_, _, rfl, by decide, fun v w h => by (first | (change v = _ at h; subst h; intro x; cases x) | skip)⟩, fun w => rfl⟩
      · exact ⟨⟨_, _, rfl, by decide, fun v w h => by (first | (change v = _ at h; subst h; intro x; cases x) | skip)⟩, fun w => rfl⟩
      · exact ⟨⟨_, _, rfl, by decide, fun v w h => by (first | (change v = _ at h; subst h; intro x; cases x) | skip)⟩, fun w => rfl⟩
      · exact ⟨⟨_, _, rfl, by decide, fun v w h => by (first | (change v = _ at h; subst h; intro x; cases x) | skip)⟩, fun w => rfl⟩
      · exact ⟨⟨_, _, rfl, by decide, fun v w h => by (first | (change v = _ at h; subst h; intro x; cases x) | skip)⟩, fun w => rfl⟩
      · exact fun g b h => by (cases h)
      · exact fun g b h => by (cases h)
      · exact ⟨⟨_, _, rfl, by decide, fun v w h => by (first | (change v = _ at h; subst h; intro x; cases x) | skip)⟩, fun w => rfl⟩
      · exact ⟨⟨_, _, rfl, by decide, fun v w h => by (first | (change v = _ at h; subst h; intro x; cases x) | skip)⟩, fun w => rfl⟩
      · exact ⟨⟨_, _, rfl, by decide, fun v w h => by (first | (change v = _ at h; subst h; intro x; cases x) | skip)⟩, fun w => rfl⟩
      · exact ⟨⟨_, _, rfl, by decide, fun v w h => by (first | (change v = _ at h; subst h; intro x; cases x) | skip)⟩, fun w => rfl⟩
      · exact ⟨⟨_, _, rfl, by decide, fun v w h => by (first | (change v = _ at h; subst h; intro x; cases x) | skip)⟩, fun w => rfl⟩
      · exact ⟨⟨_, _, rfl, by decide, fun v w h => by (first | (change v = _ at h; subst h; intro x; cases x) | skip)⟩, fun w => rfl⟩
      · exact ⟨⟨_, _, rfl, by decide, fun v w h => by (first | (change v = _ at h; subst h; intro x; cases x) | skip)⟩, fun w => rfl⟩
      · exact ⟨⟨_, _, rfl, by decide, fun v w h => by (first | (change v = _ at h; subst h; intro x; cases x) | skip)⟩, fun w => rfl⟩
      · exact ⟨⟨_, _, rfl, by decide, fun v w h => by (first | (change v = _ at h; subst h; intro x; cases x) | skip)⟩, fun w => rfl⟩
      · exact ⟨⟨_, _, rfl, by decide, fun v w h => by (first | (change v = _ at h; subst h; intro x; cases x) | skip)⟩, fun w => rfl⟩
      · exact ⟨⟨_, _, rfl, by decide, fun v w h => by (first | (change v = _ at h; subst h; intro x; cases x) | skip)⟩, fun w => rfl⟩
      · exact ⟨⟨_, _, rfl, by decide, fun v w h => by (first | (change v = _ at h; subst h; intro x; cases x) | skip)⟩, fun w => rfl⟩
      · exact ⟨⟨_, _, rfl, by decide, fun v w h => by (first | (change v = _ at h; subst h; intro x; cases x) | skip)⟩, fun w => rfl⟩
      · exact ⟨⟨_, _, rfl, by decide, fun v w h => by (first | (change v = _ at h; subst h; intro x; cases x) | skip)⟩, fun w => rfl⟩
      · exact ⟨⟨_, _, rfl, by decide, fun v w h => by (first | (change v = _ at h; subst h; intro x; cases x) | skip)⟩, fun w => rfl⟩
      · exact ⟨⟨_, _, rfl, by decide, fun v w h => by (first | (change v = _ at h; subst h; intro x; cases x) | skip)⟩, fun w => rfl⟩
      · exact ⟨⟨_, _, rfl, by decide, fun v w h => by (first | (change v = _ at h; subst h; intro x; cases x) | skip)⟩, fun w => rfl⟩
      · exact ⟨⟨_, _, rfl, by decide, fun v w h => by (first | (change v = _ at h; subst h; intro x; cases x) | skip)⟩, fun w => rfl⟩
      · exact ⟨⟨_, _, rfl, by decide, fun v w h => by (first | (change v = _ at h; subst h; intro x; cases x) | skip)⟩, fun w => rfl⟩
      · exact ⟨⟨_, _, rfl, by decide, fun v w h => by (first | (change v = _ at h; subst h; intro x; cases x) | skip)⟩, fun w => rfl⟩
      · exact ⟨⟨_, _, rfl, by decide, fun v w h => by (first | (change v = _ at h; subst h; intro x; cases x) | skip)⟩, fun w => rfl⟩
      · exact ⟨⟨_, _, rfl, by decide, fun v w h => by (first | (change v = _ at h; subst h; intro x; cases x) | skip)⟩, fun w => rfl⟩
      · exact fun g b h => by (cases h)
    · exact fun _ _ => keeps_refl wg
    · refine ⟨?_, ?_, ?_, ?_, ?_, ?_, ?_, ?_, ?_, ?_, ?_, ?_, ?_, ?_, ?_, ?_, ?_, ?_, ?_, ?_, ?_, ?_, ?_, ?_, ?_, ?_, ?_, ?_, ?_, ?_, ?_, ?_, ?_, ?_, ?_, trivial⟩
      · intro _ a w1 vs hI ho hn hu K hK
        have e19 : a.tmps[19]? = some (.slice p4 m.length q4) := ho 19 rfl
        clear hn ho hu
        go_simp
        exact hK _ _ (keeps_refl _) hI rfl
      · intro _ a w1 vs hI ho hn hu K hK
        obtain ⟨e119, g119⟩ : a.tmps[119]? = some (vs 0) ∧ vs 0 = .slice p4 m.length q4 := hn 0 (by decide)
        rw [g119] at e119
        clear g119
        clear hn ho hu
        go_simp
        refine Calls.mono (HMC.out _ hI) ?_
        rintro e w' ⟨rfl, hk2⟩
        go_simp
        exact hK _ _ hk2 (Keeps.trans hI hk2) rfl
      · intro _ a w1 vs hI ho hn hu K hK
        obtain ⟨e120, g120⟩ : a.tmps[120]? = some (vs 1) ∧ vs 1 = .bool false := hn 1 (by decide)
        rw [g120] at e120
        clear g120
        clear hn ho hu
        go_simp
        exact hK _ _ (keeps_refl _) hI rfl
      · intro _ a w1 vs hI ho hn hu K hK
        obtain ⟨e121, g121⟩ : a.tmps[121]? = some (vs 2) ∧ vs 2 = .bool true := hn 2 (by decide)
        rw [g121] at e121
        clear g121
        clear hn ho hu
        go_simp
        exact hK _ _ (keeps_refl _) hI rfl
      · intro hs; cases hs
      · intro hs; cases hs
      · intro hs; cases hs
      · intro hs; cases hs
      · intro hs; cases hs
      · intro hs; cases hs
      · intro _ a w1 vs hI ho hn hu K hK
        obtain ⟨e122, g122⟩ : a.tmps[122]? = some (vs 3) ∧ vs 3 = .bool true := hn 3 (by decide)
        rw [g122] at e122
        clear g122
        obtain ⟨e128, g128⟩ : a.tmps[128]? = some (vs 9) ∧ vs 9 = undef := hn 9 (by decide)
        rw [g128] at e128
        clear g128
        clear hn ho hu
        go_simp
        exact hK _ _ (keeps_refl _) hI rfl
      · intro _ a w1 vs hI ho hn hu K hK
        obtain ⟨e129, g129⟩ : a.tmps[129]? = some (vs 10) ∧ vs 10 = .bool true := hn 10 (by decide)
        rw [g129] at e129
        clear g129
        clear hn ho hu
        go_simp
        exact hK _ _ (keeps_refl _) hI rfl
      · intro hs; cases hs
      · intro hs; cases hs
      · intro hs; cases hs
      · intro hs; cases hs
      · intro hs; cases hs
      · intro hs; cases hs
      · intro hs; cases hs
      · intro hs; cases hs
      · intro hs; cases hs
      · intro hs; cases hs
      · intro hs; cases hs
      · intro hs; cases hs
      · intro hs; cases hs
      · intro hs; cases hs
      · intro hs; cases hs
      · intro hs; cases hs
      · intro hs; cases hs
      · intro hs; cases hs
      · intro hs; cases hs
      · intro hs; cases hs
      · intro hs; cases hs
      · intro hs; cases hs
      · intro _ a w1 vs hI ho hn hu K hK
        obtain ⟨e130, g130⟩ : a.tmps[130]? = some (vs 11) ∧ vs 11 = .bool true := hn 11 (by decide)
        rw [g130] at e130
        clear g130
        obtain ⟨e152, g152⟩ : a.tmps[152]? = some (vs 33) ∧ vs 33 = undef := hn 33 (by decide)
        rw [g152] at e152
        clear g152
        clear hn ho hu
        go_simp
        exact hK _ _ (keeps_refl _) hI rfl
    · intro vs wE hI hG
      have eL34 : vs 34 = .bool true := hG 34 (by decide)
      have HKE := Lib.hid hI
      clear hG hI
      simp only [setAll, Nat.zero_add, Nat.reduceAdd, List.setIfInBounds_toArray, List.set_cons_zero, List.set_cons_succ, eL34]
      clear eL34
      generalize vs 0 = y0 at *
      generalize vs 1 = y1 at *
      generalize vs 2 = y2 at *
      generalize vs 3 = y3 at *
      generalize vs 4 = y4 at *
      generalize vs 5 = y5 at *
      generalize vs 6 = y6 at *
      generalize vs 7 = y7 at *
      generalize vs 8 = y8 at *
      generalize vs 9 = y9 at *
      generalize vs 10 = y10 at *
      generalize vs 11 = y11 at *
      generalize vs 12 = y12 at *
      generalize vs 13 = y13 at *
      generalize vs 14 = y14 at *
      generalize vs 15 = y15 at *
      generalize vs 16 = y16 at *
      generalize vs 17 = y17 at *
      generalize vs 18 = y18 at *
      generalize vs 19 = y19 at *
      generalize vs 20 = y20 at *
      generalize vs 21 = y21 at *
      generalize vs 22 = y22 at *
      generalize vs 23 = y23 at *
      generalize vs 24 = y24 at *
      generalize vs 25 = y25 at *
      generalize vs 26 = y26 at *
      generalize vs 27 = y27 at *
      generalize vs 28 = y28 at *
      generalize vs 29 = y29 at *
      generalize vs 30 = y30 at *
      generalize vs 31 = y31 at *
      generalize vs 32 = y32 at *
      generalize vs 33 = y33 at *
      have HKW := Lib.hid (HK9.out.trans HKE.out)
      clear HKE
      go_wp2_with fail
      go_ret
      exact ⟨rfl, HKW.out⟩
  | true =>
  have HMM := Lib.hid hmm
  rw [hmm] at HMC
  clear hmm
  by_cases hbig : 256 < l.length + m.length
  · have HBG : Hid (decide ((256 : Int) < (l.length : Int) + (m.length : Int)) = true) := decide_eq_true (by omega)
    refine wp_region_stage [119, 120, 121, 122, 123, 124, 125, 126, 127, 128, 129, 130, 131, 132, 133, 134, 135, 136, 137, 138, 139, 140, 141, 142, 143, 144, 145, 146, 147, 148, 149, 150, 151, 152, 153] [[], [0], [1], [2], [3], [3, 4], [3], [3, 6], [3, 5, 7], [3, 8], [3, 9], [10], [11], [11], [11], [11], [15], [15], [15], [11], [11], [20], [20], [20], [20], [20], [20], [20], [20], [20], [20], [20], [20], [11], [11, 33]] [] [0, 0, 0, 0, 0, 0, 0, 0, 0, 0, 0, 0, 0, 0, 0, 0, 0, 0, 0, 0, 0, 0, 0, 0, 0, 0, 0, 0, 0, 0, 0, 0, 0, 0, 0] [12, 13, 14, 15, 16, 17, 18, 19, 20, 21, 22, 23, 24, 25, 26, 27, 28, 29, 30, 31, 32, 33] (fun i v _ => nbkB p3 p4 l.length m.length q3 q4 0 0 0 0 0 ⟨#[]⟩ ⟨#[]⟩ i v) (fun w w' => Keeps w w') (fun _ _ w' => Keeps wg w') (by kernel_rfl) (by kernel_rfl) (by kernel_rfl) (by kernel_rfl) (by kernel_rfl) (by kernel_rfl) (by kernel_rfl) ?_ ?_ ?_ ?_ ?_ ?_ ?_
    · exact fun i v w w' c h => h
    · exact fun w => keeps_refl w
    · exact fun i s vs w _ h => h
    · refine ⟨?_, ?_, ?_, ?_, ?_, ?_, ?_, ?_, ?_, ?_, ?_, ?_, ?_, ?_, ?_, ?_, ?_, ?_, ?_, ?_, ?_, ?_, ?_, ?_, ?_, ?_, ?_, ?_, ?_, ?_, ?_, ?_, ?_, ?_, ?_, trivial⟩
      · exact fun g b h => by (cases h)
      · exact fun g b h => by (cases h)
      · exact fun g b h => by (cases h)
      · exact fun g b h => by (cases h)
      · exact fun g b h => by (cases h; exact ⟨by decide, fun v w h => h⟩)
      · exact fun g b h => by (cases h; exact ⟨by decide, fun v w h => h⟩)
      · exact fun g b h => by (cases h; exact ⟨by decide, fun v w h => h⟩)
      · exact fun g b h => by (cases h; exact ⟨by decide, fun v w h => h⟩)
      · exact fun g b h => by (cases h; exact ⟨by decide, fun v w h => h⟩)
      · exact fun g b h => by (cases h; exact ⟨by decide, fun v w h => h⟩)
      · exact fun g b h => by (cases h)
      · exact fun g b h => by (cases h)
      · exact ⟨⟨_, _, rfl, by decide, fun v w h => by (first | (change v = _ at h; subst h; intro x; cases x) | skip)⟩, fun w => rfl⟩
      · exact ⟨⟨_, _, rfl, by decide, fun v w h => by (first | (change v = _ at h; subst h; intro x; cases x) | skip)⟩, fun w => rfl⟩
      · exact ⟨⟨_, _, rfl, by decide, fun v w h => by (first | (change v = _ at h; subst h; intro x; cases x) | skip)⟩, fun w => rfl⟩
      · exact ⟨⟨_, _, rfl, by decide, fun v w h => by (first | (change v = _ at h; subst h; intro x; cases x) | skip)⟩, fun w => rfl⟩
      · exact ⟨⟨_, _, rfl, by decide, fun v w h => by (first | (change v = _ at h; subst h; intro x; cases x) | skip)⟩, fun w => rfl⟩
      · exact ⟨⟨_, _, rfl, by decide, fun v w h => by (first | (change v = _ at h; subst h; intro x; cases x) | skip)⟩, fun w => rfl⟩
      · exact ⟨⟨_, _, rfl, by decide, fun v w h => by (first | (change v = _ at h; subst h; intro x; cases x) | skip)⟩, fun w => rfl⟩
      · exact ⟨⟨_, _, rfl, by decide, fun v w h => by (first | (change v = _ at h; subst h; intro x; cases x) | skip)⟩, fun w => rfl⟩
      · exact ⟨⟨_, _, rfl, by decide, fun v w h => by (first | (change v = _ at h; subst h; intro x; cases x) | skip)⟩, fun w => rfl⟩
      · exact ⟨⟨_, _, rfl, by decide, fun v w h => by (first | (change v = _ at h; subst h; intro x; cases x) | skip)⟩, fun w => rfl⟩
      · exact ⟨⟨_, _, rfl, by decide, fun v w h => by (first | (change v = _ at h; subst h; intro x; cases x) | skip)⟩, fun w => rfl⟩
      · exact ⟨⟨_, _, rfl, by decide, fun v w h => by (first | (change v = _ at h; subst h; intro x; cases x) | skip)⟩, fun w => rfl⟩
      · exact ⟨⟨_, _, rfl, by decide, fun v w h => by (first | (change v = _ at h; subst h; intro x; cases x) | skip)⟩, fun w => rfl⟩
      · exact ⟨⟨_, _, rfl, by decide, fun v w h => by (first | (change v = _ at h; subst h; intro x; cases x) | skip)⟩, fun w => rfl⟩
      · exact ⟨⟨_, _, rfl, by decide, fun v w h => by (first | (change v = _ at h; subst h; intro x; cases x) | skip)⟩, fun w => rfl⟩
      · exact ⟨⟨_, _, rfl, by decide, fun v w h => by (first | (change v = _ at h; subst h; intro x; cases x) | skip)⟩, fun w => rfl⟩
      · exact ⟨⟨_, _, rfl, by decide, fun v w h => by (first | (change v = _ at h; subst h; intro x; cases x) | skip)⟩, fun w => rfl⟩
      · exact ⟨⟨_, _, rfl, by decide, fun v w h => by (first | (change v = _ at h; subst h; intro x; cases x) | skip)⟩, fun w => rfl⟩
      · exact ⟨⟨_, _, rfl, by decide, fun v w h => by (first | (change v = _ at h; subst h; intro x; cases x) | skip)⟩, fun w => rfl⟩
      · exact ⟨⟨_, _, rfl, by decide, fun v w h => by (first | (change v = _ at h; subst h; intro x; cases x) | skip)⟩, fun w => rfl⟩
      · exact ⟨⟨_, _, rfl, by decide, fun v w h => by (first | (change v = _ at h; subst h; intro x; cases x) | skip)⟩, fun w => rfl⟩
      · exact ⟨⟨_, _, rfl, by decide, fun v w h => by (first | (change v = _ at h; subst h; intro x; cases x) | skip)⟩, fun w => rfl⟩
      · exact fun g b h => by (cases h)
    · exact fun _ _ => keeps_refl wg
    · refine ⟨?_, ?_, ?_, ?_, ?_, ?_, ?_, ?_, ?_, ?_, ?_, ?_, ?_, ?_, ?_, ?_, ?_, ?_, ?_, ?_, ?_, ?_, ?_, ?_, ?_, ?_, ?_, ?_, ?_, ?_, ?_, ?_, ?_, ?_, ?_, trivial⟩
      · intro _ a w1 vs hI ho hn hu K hK
        have e19 : a.tmps[19]? = some (.slice p4 m.length q4) := ho 19 rfl
        clear hn ho hu
        go_simp
        exact hK _ _ (keeps_refl _) hI rfl
      · intro _ a w1 vs hI ho hn hu K hK
        obtain ⟨e119, g119⟩ : a.tmps[119]? = some (vs 0) ∧ vs 0 = .slice p4 m.length q4 := hn 0 (by decide)
        rw [g119] at e119
        clear g119
        clear hn ho hu
        go_simp
        refine Calls.mono (HMC.out _ hI) ?_
        rintro e w' ⟨rfl, hk2⟩
        go_simp
        exact hK _ _ hk2 (Keeps.trans hI hk2) rfl
      · intro _ a w1 vs hI ho hn hu K hK
        obtain ⟨e120, g120⟩ : a.tmps[120]? = some (vs 1) ∧ vs 1 = .bool true := hn 1 (by decide)
        rw [g120] at e120
        clear g120
        clear hn ho hu
        go_simp
        exact hK _ _ (keeps_refl _) hI rfl
      · intro _ a w1 vs hI ho hn hu K hK
        obtain ⟨e121, g121⟩ : a.tmps[121]? = some (vs 2) ∧ vs 2 = .bool false := hn 2 (by decide)
        rw [g121] at e121
        clear g121
        clear hn ho hu
        go_simp
        exact hK _ _ (keeps_refl _) hI rfl
      · intro _ a w1 vs hI ho hn hu K hK
        have e13 : a.tmps[13]? = some (.slice p3 l.length q3) := ho 13 rfl
        clear hn ho hu
        go_simp
        exact hK _ _ (keeps_refl _) hI rfl
      · intro _ a w1 vs hI ho hn hu K hK
        obtain ⟨e123, g123⟩ : a.tmps[123]? = some (vs 4) ∧ vs 4 = .slice p3 l.length q3 := hn 4 (by decide)
        rw [g123] at e123
        clear g123
        clear hn ho hu
        go_simp
        exact hK _ _ (keeps_refl _) hI rfl
      · intro _ a w1 vs hI ho hn hu K hK
        have e19 : a.tmps[19]? = some (.slice p4 m.length q4) := ho 19 rfl
        clear hn ho hu
        go_simp
        exact hK _ _ (keeps_refl _) hI rfl
      · intro _ a w1 vs hI ho hn hu K hK
        obtain ⟨e125, g125⟩ : a.tmps[125]? = some (vs 6) ∧ vs 6 = .slice p4 m.length q4 := hn 6 (by decide)
        rw [g125] at e125
        clear g125
        clear hn ho hu
        go_simp
        exact hK _ _ (keeps_refl _) hI rfl
      · intro _ a w1 vs hI ho hn hu K hK
        obtain ⟨e124, g124⟩ : a.tmps[124]? = some (vs 5) ∧ vs 5 = .int .i64 (l.length : Int) := hn 5 (by decide)
        rw [g124] at e124
        clear g124
        obtain ⟨e126, g126⟩ : a.tmps[126]? = some (vs 7) ∧ vs 7 = .int .i64 (m.length : Int) := hn 7 (by decide)
        rw [g126] at e126
        clear g126
        clear hn ho hu
        have f4 := HW0.out
        go_simp
        exact hK _ _ (keeps_refl _) hI rfl
      · intro _ a w1 vs hI ho hn hu K hK
        obtain ⟨e127, g127⟩ : a.tmps[127]? = some (vs 8) ∧ vs 8 = .int .i64 ((l.length : Int) + (m.length : Int)) := hn 8 (by decide)
        rw [g127] at e127
        clear g127
        clear hn ho hu
        have i1 := HBG.out
        go_simp
        exact hK _ _ (keeps_refl _) hI rfl
      · intro _ a w1 vs hI ho hn hu K hK
        obtain ⟨e122, g122⟩ : a.tmps[122]? = some (vs 3) ∧ vs 3 = .bool false := hn 3 (by decide)
        rw [g122] at e122
        clear g122
        obtain ⟨e128, g128⟩ : a.tmps[128]? = some (vs 9) ∧ vs 9 = .bool true := hn 9 (by decide)
        rw [g128] at e128
        clear g128
        clear hn ho hu
        go_simp
        exact hK _ _ (keeps_refl _) hI rfl
      · intro _ a w1 vs hI ho hn hu K hK
        obtain ⟨e129, g129⟩ : a.tmps[129]? = some (vs 10) ∧ vs 10 = .bool true := hn 10 (by decide)
        rw [g129] at e129
        clear g129
        clear hn ho hu
        go_simp
        exact hK _ _ (keeps_refl _) hI rfl
      · intro hs; cases hs
      · intro hs; cases hs
      · intro hs; cases hs
      · intro hs; cases hs
      · intro hs; cases hs
      · intro hs; cases hs
      · intro hs; cases hs
      · intro hs; cases hs
      · intro hs; cases hs
      · intro hs; cases hs
      · intro hs; cases hs
      · intro hs; cases hs
      · intro hs; cases hs
      · intro hs; cases hs
      · intro hs; cases hs
      · intro hs; cases hs
      · intro hs; cases hs
      · intro hs; cases hs
      · intro hs; cases hs
      · intro hs; cases hs
      · intro hs; cases hs
      · intro hs; cases hs
      · intro _ a w1 vs hI ho hn hu K hK
        obtain ⟨e130, g130⟩ : a.tmps[130]? = some (vs 11) ∧ vs 11 = .bool true := hn 11 (by decide)
        rw [g130] at e130
        clear g130
        obtain ⟨e152, g152⟩ : a.tmps[152]? = some (vs 33) ∧ vs 33 = undef := hn 33 (by decide)
        rw [g152] at e152
        clear g152
        clear hn ho hu
        go_simp
        exact hK _ _ (keeps_refl _) hI rfl
    · intro vs wE hI hG
      have eL34 : vs 34 = .bool true := hG 34 (by decide)
      have HKE := Lib.hid hI
      clear hG hI
      simp only [setAll, Nat.zero_add, Nat.reduceAdd, List.setIfInBounds_toArray, List.set_cons_zero, List.set_cons_succ, eL34]
      clear eL34
      generalize vs 0 = y0 at *
      generalize vs 1 = y1 at *
      generalize vs 2 = y2 at *
      generalize vs 3 = y3 at *
      generalize vs 4 = y4 at *
      generalize vs 5 = y5 at *
      generalize vs 6 = y6 at *
      generalize vs 7 = y7 at *
      generalize vs 8 = y8 at *
      generalize vs 9 = y9 at *
      generalize vs 10 = y10 at *
      generalize vs 11 = y11 at *
      generalize vs 12 = y12 at *
      generalize vs 13 = y13 at *
      generalize vs 14 = y14 at *
      generalize vs 15 = y15 at *
      generalize vs 16 = y16 at *
      generalize vs 17 = y17 at *
      generalize vs 18 = y18 at *
      generalize vs 19 = y19 at *
      generalize vs 20 = y20 at *
      generalize vs 21 = y21 at *
      generalize vs 22 = y22 at *
      generalize vs 23 = y23 at *
      generalize vs 24 = y24 at *
      generalize vs 25 = y25 at *
      generalize vs 26 = y26 at *
      generalize vs 27 = y27 at *
      generalize vs 28 = y28 at *
      generalize vs 29 = y29 at *
      generalize vs 30 = y30 at *
      generalize vs 31 = y31 at *
      generalize vs 32 = y32 at *
      generalize vs 33 = y33 at *
      have HKW := Lib.hid (HK9.out.trans HKE.out)
      clear HKE
      go_wp2_with fail
      go_ret
      exact ⟨rfl, HKW.out⟩
  have HBG : Hid (decide ((256 : Int) < (l.length : Int) + (m.length : Int)) = false) := decide_eq_false (by omega)
  by_cases h0 : l.length = 0
  · have HZ0 : Hid ((decide ((0 : Int) < (l.length : Int)) = false ∧ decide (0 < l.length) = false) ∧ ¬ (0 < l.length)) := ⟨⟨decide_eq_false (by omega), decide_eq_false (by omega)⟩, by omega⟩
    have HJ : Hid (mayL (l ++ m) = true) := may_join HML.out HMM.out (by omega) fun a _ => absurd a (by omega)
    clear h0
    refine wp_region_stage [119, 120, 121, 122, 123, 124, 125, 126, 127, 128, 129, 130, 131, 132, 133, 134, 135, 136, 137, 138, 139, 140, 141, 142, 143, 144, 145, 146, 147, 148, 149, 150, 151, 152, 153] [[], [0], [1], [2], [3], [3, 4], [3], [3, 6], [3, 5, 7], [3, 8], [3, 9], [10], [11], [11, 12], [11, 13], [11, 14], [15], [15], [15], [11, 15, 18], [11, 19], [20], [20], [20], [20], [20], [20], [20], [20], [20], [20], [20], [20], [11, 20, 32], [11, 33]] [] [0, 0, 0, 0, 0, 0, 0, 0, 0, 0, 0, 0, 0, 0, 0, 0, 0, 0, 0, 0, 0, 0, 0, 0, 0, 0, 0, 0, 0, 0, 0, 0, 0, 0, 0] [16, 17, 18, 21, 22, 23, 24, 25, 26, 27, 28, 29, 30, 31, 32] (fun i v _ => nbkC p3 p4 l.length m.length q3 q4 0 0 0 0 0 ⟨#[]⟩ ⟨#[]⟩ i v) (fun w w' => Keeps w w') (fun _ _ w' => Keeps wg w') (by kernel_rfl) (by kernel_rfl) (by kernel_rfl) (by kernel_rfl) (by kernel_rfl) (by kernel_rfl) (by kernel_rfl) ?_ ?_ ?_ ?_ ?_ ?_ ?_
    · exact fun i v w w' c h => h
    · exact fun w => keeps_refl w
    · exact fun i s vs w _ h => h
    · refine ⟨?_, ?_, ?_, ?_, ?_, ?_, ?_, ?_, ?_, ?_, ?_, ?_, ?_, ?_, ?_, ?_, ?_, ?_, ?_, ?_, ?_, ?_, ?_, ?_, ?_, ?_, ?_, ?_, ?_, ?_, ?_, ?_, ?_, ?_, ?_, trivial⟩
      · exact fun g b h => by (cases h)
      · exact fun g b h => by (cases h)
      · exact fun g b h => by (cases h)
      · exact fun g b h => by (cases h)
      · exact fun g b h => by (cases h; exact ⟨by decide, fun v w h => h⟩)
      · exact fun g b h => by (cases h; exact ⟨by decide, fun v w h => h⟩)
      · exact fun g b h => by (cases h; exact ⟨by decide, fun v w h => h⟩)
      · exact fun g b h => by (cases h; exact ⟨by decide, fun v w h => h⟩)
      · exact fun g b h => by (cases h; exact ⟨by decide, fun v w h => h⟩)
      · exact fun g b h => by (cases h; exact ⟨by decide, fun v w h => h⟩)
      · exact fun g b h => by (cases h)
      · exact fun g b h => by (cases h)
      · exact fun g b h => by (cases h; exact ⟨by decide, fun v w h => h⟩)
      · exact fun g b h => by (cases h; exact ⟨by decide, fun v w h => h⟩)
      · exact fun g b h => by (cases h; exact ⟨by decide, fun v w h => h⟩)
      · exact fun g b h => by (cases h; exact ⟨by decide, fun v w h => h⟩)
      · exact ⟨⟨_, _, rfl, by decide, fun v w h => by (first | (change v = _ at h; subst h; intro x; cases x) | skip)⟩, fun w => rfl⟩
      · exact ⟨⟨_, _, rfl, by decide, fun v w h => by (first | (change v = _ at h; subst h; intro x; cases x) | skip)⟩, fun w => rfl⟩
      · exact ⟨⟨_, _, rfl, by decide, fun v w h => by (first | (change v = _ at h; subst h; intro x; cases x) | skip)⟩, fun w => rfl⟩
      · exact fun g b h => by (cases h; exact ⟨by decide, fun v w h => h⟩)
      · exact fun g b h => by (cases h; exact ⟨by decide, fun v w h => h⟩)
      · exact ⟨⟨_, _, rfl, by decide, fun v w h => by (first | (change v = _ at h; subst h; intro x; cases x) | skip)⟩, fun w => rfl⟩
      · exact ⟨⟨_, _, rfl, by decide, fun v w h => by (first | (change v = _ at h; subst h; intro x; cases x) | skip)⟩, fun w => rfl⟩
      · exact ⟨⟨_, _, rfl, by decide, fun v w h => by (first | (change v = _ at h; subst h; intro x; cases x) | skip)⟩, fun w => rfl⟩
      · exact ⟨⟨_, _, rfl, by decide, fun v w h => by (first | (change v = _ at h; subst h; intro x; cases x) | skip)⟩, fun w => rfl⟩
      · exact ⟨⟨_, _, rfl, by decide, fun v w h => by (first | (change v = _ at h; subst h; intro x; cases x) | skip)⟩, fun w => rfl⟩
      · exact ⟨⟨_, _, rfl, by decide, fun v w h => by (first | (change v = _ at h; subst h; intro x; cases x) | skip)⟩, fun w => rfl⟩
      · exact ⟨⟨_, _, rfl, by decide, fun v w h => by (first | (change v = _ at h; subst h; intro x; cases x) | skip)⟩, fun w => rfl⟩
      · exact ⟨⟨_, _, rfl, by decide, fun v w h => by (first | (change v = _ at h; subst h; intro x; cases x) | skip)⟩, fun w => rfl⟩
      · exact ⟨⟨_, _, rfl, by decide, fun v w h => by (first | (change v = _ at h; subst h; intro x; cases x) | skip)⟩, fun w => rfl⟩
      · exact ⟨⟨_, _, rfl, by decide, fun v w h => by (first | (change v = _ at h; subst h; intro x; cases x) | skip)⟩, fun w => rfl⟩
      · exact ⟨⟨_, _, rfl, by decide, fun v w h => by (first | (change v = _ at h; subst h; intro x; cases x) | skip)⟩, fun w => rfl⟩
      · exact ⟨⟨_, _, rfl, by decide, fun v w h => by (first | (change v = _ at h; subst h; intro x; cases x) | skip)⟩, fun w => rfl⟩
      · exact fun g b h => by (cases h; exact ⟨by decide, fun v w h => h⟩)
      · exact fun g b h => by (cases h)
    · exact fun _ _ => keeps_refl wg
    · refine ⟨?_, ?_, ?_, ?_, ?_, ?_, ?_, ?_, ?_, ?_, ?_, ?_, ?_, ?_, ?_, ?_, ?_, ?_, ?_, ?_, ?_, ?_, ?_, ?_, ?_, ?_, ?_, ?_, ?_, ?_, ?_, ?_, ?_, ?_, ?_, trivial⟩
      · intro _ a w1 vs hI ho hn hu K hK
        have e19 : a.tmps[19]? = some (.slice p4 m.length q4) := ho 19 rfl
        clear hn ho hu
        go_simp
        exact hK _ _ (keeps_refl _) hI rfl
      · intro _ a w1 vs hI ho hn hu K hK
        obtain ⟨e119, g119⟩ : a.tmps[119]? = some (vs 0) ∧ vs 0 = .slice p4 m.length q4 := hn 0 (by decide)
        rw [g119] at e119
        clear g119
        clear hn ho hu
        go_simp
        refine Calls.mono (HMC.out _ hI) ?_
        rintro e w' ⟨rfl, hk2⟩
        go_simp
        exact hK _ _ hk2 (Keeps.trans hI hk2) rfl
      · intro _ a w1 vs hI ho hn hu K hK
        obtain ⟨e120, g120⟩ : a.tmps[120]? = some (vs 1) ∧ vs 1 = .bool true := hn 1 (by decide)
        rw [g120] at e120
        clear g120
        clear hn ho hu
        go_simp
        exact hK _ _ (keeps_refl _) hI rfl
      · intro _ a w1 vs hI ho hn hu K hK
        obtain ⟨e121, g121⟩ : a.tmps[121]? = some (vs 2) ∧ vs 2 = .bool false := hn 2 (by decide)
        rw [g121] at e121
        clear g121
        clear hn ho hu
        go_simp
        exact hK _ _ (keeps_refl _) hI rfl
      · intro _ a w1 vs hI ho hn hu K hK
        have e13 : a.tmps[13]? = some (.slice p3 l.length q3) := ho 13 rfl
        clear hn ho hu
        go_simp
        exact hK _ _ (keeps_refl _) hI rfl
      · intro _ a w1 vs hI ho hn hu K hK
        obtain ⟨e123, g123⟩ : a.tmps[123]? = some (vs 4) ∧ vs 4 = .slice p3 l.length q3 := hn 4 (by decide)
        rw [g123] at e123
        clear g123
        clear hn ho hu
        go_simp
        exact hK _ _ (keeps_refl _) hI rfl
      · intro _ a w1 vs hI ho hn hu K hK
        have e19 : a.tmps[19]? = some (.slice p4 m.length q4) := ho 19 rfl
        clear hn ho hu
        go_simp
        exact hK _ _ (keeps_refl _) hI rfl
      · intro _ a w1 vs hI ho hn hu K hK
        obtain ⟨e125, g125⟩ : a.tmps[125]? = some (vs 6) ∧ vs 6 = .slice p4 m.length q4 := hn 6 (by decide)
        rw [g125] at e125
        clear g125
        clear hn ho hu
        go_simp
        exact hK _ _ (keeps_refl _) hI rfl
      · intro _ a w1 vs hI ho hn hu K hK
        obtain ⟨e124, g124⟩ : a.tmps[124]? = some (vs 5) ∧ vs 5 = .int .i64 (l.length : Int) := hn 5 (by decide)
        rw [g124] at e124
        clear g124
        obtain ⟨e126, g126⟩ : a.tmps[126]? = some (vs 7) ∧ vs 7 = .int .i64 (m.length : Int) := hn 7 (by decide)
        rw [g126] at e126
        clear g126
        clear hn ho hu
        have f4 := HW0.out
        go_simp
        exact hK _ _ (keeps_refl _) hI rfl
      · intro _ a w1 vs hI ho hn hu K hK
        obtain ⟨e127, g127⟩ : a.tmps[127]? = some (vs 8) ∧ vs 8 = .int .i64 ((l.length : Int) + (m.length : Int)) := hn 8 (by decide)
        rw [g127] at e127
        clear g127
        clear hn ho hu
        have i1 := HBG.out
        go_simp
        exact hK _ _ (keeps_refl _) hI rfl
      · intro _ a w1 vs hI ho hn hu K hK
        obtain ⟨e122, g122⟩ : a.tmps[122]? = some (vs 3) ∧ vs 3 = .bool false := hn 3 (by decide)
        rw [g122] at e122
        clear g122
        obtain ⟨e128, g128⟩ : a.tmps[128]? = some (vs 9) ∧ vs 9 = .bool false := hn 9 (by decide)
        rw [g128] at e128
        clear g128
        clear hn ho hu
        go_simp
        exact hK _ _ (keeps_refl _) hI rfl
      · intro _ a w1 vs hI ho hn hu K hK
        obtain ⟨e129, g129⟩ : a.tmps[129]? = some (vs 10) ∧ vs 10 = .bool false := hn 10 (by decide)
        rw [g129] at e129
        clear g129
        clear hn ho hu
        go_simp
        exact hK _ _ (keeps_refl _) hI rfl
      · intro _ a w1 vs hI ho hn hu K hK
        have e13 : a.tmps[13]? = some (.slice p3 l.length q3) := ho 13 rfl
        clear hn ho hu
        go_simp
        exact hK _ _ (keeps_refl _) hI rfl
      · intro _ a w1 vs hI ho hn hu K hK
        obtain ⟨e131, g131⟩ : a.tmps[131]? = some (vs 12) ∧ vs 12 = .slice p3 l.length q3 := hn 12 (by decide)
        rw [g131] at e131
        clear g131
        clear hn ho hu
        go_simp
        exact hK _ _ (keeps_refl _) hI rfl
      · intro _ a w1 vs hI ho hn hu K hK
        obtain ⟨e132, g132⟩ : a.tmps[132]? = some (vs 13) ∧ vs 13 = .int .i64 (l.length : Int) := hn 13 (by decide)
        rw [g132] at e132
        clear g132
        clear hn ho hu
        have i1 := HZ0.out.1.1
        have i2 := HZ0.out.1.2
        have i3 := HZ0.out.2
        go_simp
        exact hK _ _ (keeps_refl _) hI rfl
      · intro _ a w1 vs hI ho hn hu K hK
        obtain ⟨e133, g133⟩ : a.tmps[133]? = some (vs 14) ∧ vs 14 = .bool false := hn 14 (by decide)
        rw [g133] at e133
        clear g133
        clear hn ho hu
        go_simp
        exact hK _ _ (keeps_refl _) hI rfl
      · intro hs; cases hs
      · intro hs; cases hs
      · intro hs; cases hs
      · intro _ a w1 vs hI ho hn hu K hK
        obtain ⟨e134, g134⟩ : a.tmps[134]? = some (vs 15) ∧ vs 15 = .bool false := hn 15 (by decide)
        rw [g134] at e134
        clear g134
        obtain ⟨e137, g137⟩ : a.tmps[137]? = some (vs 18) ∧ vs 18 = undef := hn 18 (by decide)
        rw [g137] at e137
        clear g137
        clear hn ho hu
        go_simp
        exact hK _ _ (keeps_refl _) hI rfl
      · intro _ a w1 vs hI ho hn hu K hK
        obtain ⟨e138, g138⟩ : a.tmps[138]? = some (vs 19) ∧ vs 19 = .bool false := hn 19 (by decide)
        rw [g138] at e138
        clear g138
        clear hn ho hu
        go_simp
        exact hK _ _ (keeps_refl _) hI rfl
      · intro hs; cases hs
      · intro hs; cases hs
      · intro hs; cases hs
      · intro hs; cases hs
      · intro hs; cases hs
      · intro hs; cases hs
      · intro hs; cases hs
      · intro hs; cases hs
      · intro hs; cases hs
      · intro hs; cases hs
      · intro hs; cases hs
      · intro hs; cases hs
      · intro _ a w1 vs hI ho hn hu K hK
        obtain ⟨e139, g139⟩ : a.tmps[139]? = some (vs 20) ∧ vs 20 = .bool false := hn 20 (by decide)
        rw [g139] at e139
        clear g139
        obtain ⟨e151, g151⟩ : a.tmps[151]? = some (vs 32) ∧ vs 32 = undef := hn 32 (by decide)
        rw [g151] at e151
        clear g151
        clear hn ho hu
        go_simp
        exact hK _ _ (keeps_refl _) hI rfl
      · intro _ a w1 vs hI ho hn hu K hK
        obtain ⟨e130, g130⟩ : a.tmps[130]? = some (vs 11) ∧ vs 11 = .bool false := hn 11 (by decide)
        rw [g130] at e130
        clear g130
        obtain ⟨e152, g152⟩ : a.tmps[152]? = some (vs 33) ∧ vs 33 = .bool false := hn 33 (by decide)
        rw [g152] at e152
        clear g152
        clear hn ho hu
        go_simp
        exact hK _ _ (keeps_refl _) hI rfl
    · intro vs wE hI hG
      have eL34 : vs 34 = .bool false := hG 34 (by decide)
      have HKE := Lib.hid hI
      clear hG hI
      simp only [setAll, Nat.zero_add, Nat.reduceAdd, List.setIfInBounds_toArray, List.set_cons_zero, List.set_cons_succ, eL34]
      clear eL34
      generalize vs 0 = y0 at *
      generalize vs 1 = y1 at *
      generalize vs 2 = y2 at *
      generalize vs 3 = y3 at *
      generalize vs 4 = y4 at *
      generalize vs 5 = y5 at *
      generalize vs 6 = y6 at *
      generalize vs 7 = y7 at *
      generalize vs 8 = y8 at *
      generalize vs 9 = y9 at *
      generalize vs 10 = y10 at *
      generalize vs 11 = y11 at *
      generalize vs 12 = y12 at *
      generalize vs 13 = y13 at *
      generalize vs 14 = y14 at *
      generalize vs 15 = y15 at *
      generalize vs 16 = y16 at *
      generalize vs 17 = y17 at *
      generalize vs 18 = y18 at *
      generalize vs 19 = y19 at *
      generalize vs 20 = y20 at *
      generalize vs 21 = y21 at *
      generalize vs 22 = y22 at *
      generalize vs 23 = y23 at *
      generalize vs 24 = y24 at *
      generalize vs 25 = y25 at *
      generalize vs 26 = y26 at *
      generalize vs 27 = y27 at *
      generalize vs 28 = y28 at *
      generalize vs 29 = y29 at *
      generalize vs 30 = y30 at *
      generalize vs 31 = y31 at *
      generalize vs 32 = y32 at *
      generalize vs 33 = y33 at *
      have HKW := Lib.hid (HK9.out.trans HKE.out)
      have HA := Lib.hid (EntsAt.keeps H9.out HKE.out)
      have HB := Lib.hid (EntsAt.keeps HN.out HKE.out)
      clear HKE
      obtain ⟨us, hu1, hu2, hu3, hu4, hu5⟩ := ents_cells HA.out
      obtain ⟨vs9, hv1, hv2, hv3, hv4, hv5⟩ := ents_cells HB.out
      have HU2 := Lib.hid hu2
      have HU5 := Lib.hid hu5
      have HV2 := Lib.hid hv2
      have HV4 := Lib.hid hv4
      have HV5 := Lib.hid hv5
      have HOW : Hid (∀ v' w', w'.ownsRow wE.heap.size 33 4 v' (l.length + m.length) (us.flatten ++ vs9.flatten) → Keeps wE w' → EntsAt w'.heap v' (l ++ m)) := fun v' w' ho hk => ents_both hu1 hu3 hv1 hv3 ho rfl hk (by omega)
      clear hu1 hu2 hu3 hu4 hu5 hv1 hv2 hv3 hv4 hv5
      go_wp2_with (at_builtin; first | (refine wpList_plain rfl fun _ hK => oper_freshR elEntG rfl (.tmp 154) (.tmp 155) rfl wE.heap.size wE.heap.size rfl (own_empty0 wE wE.heap.size 33 4 (Nat.le_refl _)) (by simp) _ l.length _ us.flatten rfl HU2.out (fun h0 => let ⟨b, o, e, hc⟩ := HU5.out h0; ⟨b, o, e, fun j hj => keeps_cell (kal _ _) (hc j hj)⟩) (by omega) fun v7 w7 ow7 hk7 => hK _ _ ?_; obtain ⟨pv, qv, rfl⟩ := own_slice9 ow7; have HO7 := Lib.hid ow7; have HK7 := Lib.hid ((kal wE (.cells #[] 33)).trans hk7); clear ow7 hk7) | (refine wpList_plain rfl fun _ hK => oper_recsA elEntG rfl (.tmp 156) (.tmp 157) rfl wE.heap.size _ l.length us.flatten rfl HO7.out _ m.length _ vs9.flatten rfl HV2.out (fun h0 => let ⟨b, o, e, hc⟩ := HV5.out h0; ⟨b, o, e, fun j hj => keeps_cell HK7.out (hc j hj)⟩) HV4.out (by omega) HK7.out.size fun v8 w8 ow8 hc8 => hK _ _ ?_; have HK8 : Hid (Keeps wE w8) := HK7.out.then (chg_kept (B := wE.heap.size) hc8 (fun q _ e => (own_blockK HO7.out q e).1) HK7.out.size) (Nat.le_refl _); have HE8 := Lib.hid (HOW.out _ _ ow8 HK8.out); clear ow8 hc8))
      refine Calls.mono (nmay_any _ (l ++ m) _ HE8.out) ?_
      rintro e w9 ⟨rfl, hk9⟩
      have HK9 := Lib.hid (HKW.out.trans (HK8.out.trans hk9))
      rw [HJ.out]
      clear hk9
      go_wp2_with fail
      go_ret
      exact ⟨rfl, HK9.out⟩
  have HZ0 : Hid ((decide ((0 : Int) < (l.length : Int)) = true ∧ decide (0 < l.length) = true) ∧ 0 < l.length) := ⟨⟨decide_eq_true (by omega), decide_eq_true (by omega)⟩, by omega⟩
  by_cases h1 : m.length = 0
  · have HZ1 : Hid ((decide ((0 : Int) < (m.length : Int)) = false ∧ decide (0 < m.length) = false) ∧ ¬ (0 < m.length)) := ⟨⟨decide_eq_false (by omega), decide_eq_false (by omega)⟩, by omega⟩
    have HJ : Hid (mayL (l ++ m) = true) := may_join HML.out HMM.out (by omega) fun _ a => absurd a (by omega)
    clear h0 h1
    refine wp_region_stage [119, 120, 121, 122, 123, 124, 125, 126, 127, 128, 129, 130, 131, 132, 133, 134, 135, 136, 137, 138, 139, 140, 141, 142, 143, 144, 145, 146, 147, 148, 149, 150, 151, 152, 153] [[], [0], [1], [2], [3], [3, 4], [3], [3, 6], [3, 5, 7], [3, 8], [3, 9], [10], [11], [11, 12], [11, 13], [11, 14], [15], [15, 16], [15, 17], [11, 15, 18], [11, 19], [20], [20], [20], [20], [20], [20], [20], [20], [20], [20], [20], [20], [11, 20, 32], [11, 33]] [] [0, 0, 0, 0, 0, 0, 0, 0, 0, 0, 0, 0, 0, 0, 0, 0, 0, 0, 0, 0, 0, 0, 0, 0, 0, 0, 0, 0, 0, 0, 0, 0, 0, 0, 0] [21, 22, 23, 24, 25, 26, 27, 28, 29, 30, 31, 32] (fun i v _ => nbkD p3 p4 l.length m.length q3 q4 0 0 0 0 0 ⟨#[]⟩ ⟨#[]⟩ i v) (fun w w' => Keeps w w') (fun _ _ w' => Keeps wg w') (by kernel_rfl) (by kernel_rfl) (by kernel_rfl) (by kernel_rfl) (by kernel_rfl) (by kernel_rfl) (by kernel_rfl) ?_ ?_ ?_ ?_ ?_ ?_ ?_
    · exact fun i v w w' c h => h
    · exact fun w => keeps_refl w
    · exact fun i s vs w _ h => h
    · refine ⟨?_, ?_, ?_, ?_, ?_, ?_, ?_, ?_, ?_, ?_, ?_, ?_, ?_, ?_, ?_, ?_, ?_, ?_, ?_, ?_, ?_, ?_, ?_, ?_, ?_, ?_, ?_, ?_, ?_, ?_, ?_, ?_, ?_, ?_, ?_, trivial⟩
      · exact fun g b h => by (cases h)
      · exact fun g b h => by (cases h)
      · exact fun g b h => by (cases h)
      · exact fun g b h => by (cases h)
      · exact fun g b h => by (cases h; exact ⟨by decide, fun v w h => h⟩)
      · exact fun g b h => by (cases h; exact ⟨by decide, fun v w h => h⟩)
      · exact fun g b h => by (cases h; exact ⟨by decide, fun v w h => h⟩)
      · exact fun g b h => by (cases h; exact ⟨by decide, fun v w h => h⟩)
      · exact fun g b h => by (cases h; exact ⟨by decide, fun v w h => h⟩)
      · exact fun g b h => by (cases h; exact ⟨by decide, fun v w h => h⟩)
      · exact fun g b h => by (cases h)
      · exact fun g b h => by (cases h)
      · exact fun g b h => by (cases h; exact ⟨by decide, fun v w h => h⟩)
      · exact fun g b h => by (cases h; exact ⟨by decide, fun v w h => h⟩)
      · exact fun g b h => by (cases h; exact ⟨by decide, fun v w h => h⟩)
      · exact fun g b h => by (cases h; exact ⟨by decide, fun v w h => h⟩)
      · exact fun g b h => by (cases h; exact ⟨by decide, fun v w h => h⟩)
      · exact fun g b h => by (cases h; exact ⟨by decide, fun v w h => h⟩)
      · exact fun g b h => by (cases h; exact ⟨by decide, fun v w h => h⟩)
      · exact fun g b h => by (cases h; exact ⟨by decide, fun v w h => h⟩)
      · exact fun g b h => by (cases h; exact ⟨by decide, fun v w h => h⟩)
      · exact ⟨⟨_, _, rfl, by decide, fun v w h => by (first | (change v = _ at h; subst h; intro x; cases x) | skip)⟩, fun w => rfl⟩
      · exact ⟨⟨_, _, rfl, by decide, fun v w h => by (first | (change v = _ at h; subst h; intro x; cases x) | skip)⟩, fun w => rfl⟩
      · exact ⟨⟨_, _, rfl, by decide, fun v w h => by (first | (change v = _ at h; subst h; intro x; cases x) | skip)⟩, fun w => rfl⟩
      · exact ⟨⟨_, _, rfl, by decide, fun v w h => by (first | (change v = _ at h; subst h; intro x; cases x) | skip)⟩, fun w => rfl⟩
      · exact ⟨⟨_, _, rfl, by decide, fun v w h => by (first | (change v = _ at h; subst h; intro x; cases x) | skip)⟩, fun w => rfl⟩
      · exact ⟨⟨_, _, rfl, by decide, fun v w h => by (first | (change v = _ at h; subst h; intro x; cases x) | skip)⟩, fun w => rfl⟩
      · exact ⟨⟨_, _, rfl, by decide, fun v w h => by (first | (change v = _ at h; subst h; intro x; cases x) | skip)⟩, fun w => rfl⟩
      · exact ⟨⟨_, _, rfl, by decide, fun v w h => by (first | (change v = _ at h; subst h; intro x; cases x) | skip)⟩, fun w => rfl⟩
      · exact ⟨⟨_, _, rfl, by decide, fun v w h => by (first | (change v = _ at h; subst h; intro x; cases x) | skip)⟩, fun w => rfl⟩
      · exact ⟨⟨_, _, rfl, by decide, fun v w h => by (first | (change v = _ at h; subst h; intro x; cases x) | skip)⟩, fun w => rfl⟩
      · exact ⟨⟨_, _, rfl, by decide, fun v w h => by (first | (change v = _ at h; subst h; intro x; cases x) | skip)⟩, fun w => rfl⟩
      · exact ⟨⟨_, _, rfl, by decide, fun v w h => by (first | (change v = _ at h; subst h; intro x; cases x) | skip)⟩, fun w => rfl⟩
      · exact fun g b h => by (cases h; exact ⟨by decide, fun v w h => h⟩)
      · exact fun g b h => by (cases h)
    · exact fun _ _ => keeps_refl wg
    · refine ⟨?_, ?_, ?_, ?_, ?_, ?_, ?_, ?_, ?_, ?_, ?_, ?_, ?_, ?_, ?_, ?_, ?_, ?_, ?_, ?_, ?_, ?_, ?_, ?_, ?_, ?_, ?_, ?_, ?_, ?_, ?_, ?_, ?_, ?_, ?_, trivial⟩
      · intro _ a w1 vs hI ho hn hu K hK
        have e19 : a.tmps[19]? = some (.slice p4 m.length q4) := ho 19 rfl
        clear hn ho hu
        go_simp
        exact hK _ _ (keeps_refl _) hI rfl
      · intro _ a w1 vs hI ho hn hu K hK
        obtain ⟨e119, g119⟩ : a.tmps[119]? = some (vs 0) ∧ vs 0 = .slice p4 m.length q4 := hn 0 (by decide)
        rw [g119] at e119
        clear g119
        clear hn ho hu
        go_simp
        refine Calls.mono (HMC.out _ hI) ?_
        rintro e w' ⟨rfl, hk2⟩
        go_simp
        exact hK _ _ hk2 (Keeps.trans hI hk2) rfl
      · intro _ a w1 vs hI ho hn hu K hK
        obtain ⟨e120, g120⟩ : a.tmps[120]? = some (vs 1) ∧ vs 1 = .bool true := hn 1 (by decide)
        rw [g120] at e120
        clear g120
        clear hn ho hu
        go_simp
        exact hK _ _ (keeps_refl _) hI rfl
      · intro _ a w1 vs hI ho hn hu K hK
        obtain ⟨e121, g121⟩ : a.tmps[121]? = some (vs 2) ∧ vs 2 = .bool false := hn 2 (by decide)
        rw [g121] at e121
        clear g121
        clear hn ho hu
        go_simp
        exact hK _ _ (keeps_refl _) hI rfl
      · intro _ a w1 vs hI ho hn hu K hK
        have e13 : a.tmps[13]? = some (.slice p3 l.length q3) := ho 13 rfl
        clear hn ho hu
        go_simp
        exact hK _ _ (keeps_refl _) hI rfl
      · intro _ a w1 vs hI ho hn hu K hK
        obtain ⟨e123, g123⟩ : a.tmps[123]? = some (vs 4) ∧ vs 4 = .slice p3 l.length q3 := hn 4 (by decide)
        rw [g123] at e123
        clear g123
        clear hn ho hu
        go_simp
        exact hK _ _ (keeps_refl _) hI rfl
      · intro _ a w1 vs hI ho hn hu K hK
        have e19 : a.tmps[19]? = some (.slice p4 m.length q4) := ho 19 rfl
        clear hn ho hu
        go_simp
        exact hK _ _ (keeps_refl _) hI rfl
      · intro _ a w1 vs hI ho hn hu K hK
        obtain ⟨e125, g125⟩ : a.tmps[125]? = some (vs 6) ∧ vs 6 = .slice p4 m.length q4 := hn 6 (by decide)
        rw [g125] at e125
        clear g125
        clear hn ho hu
        go_simp
        exact hK _ _ (keeps_refl _) hI rfl
      · intro _ a w1 vs hI ho hn hu K hK
        obtain ⟨e124, g124⟩ : a.tmps[124]? = some (vs 5) ∧ vs 5 = .int .i64 (l.length : Int) := hn 5 (by decide)
        rw [g124] at e124
        clear g124
        obtain ⟨e126, g126⟩ : a.tmps[126]? = some (vs 7) ∧ vs 7 = .int .i64 (m.length : Int) := hn 7 (by decide)
        rw [g126] at e126
        clear g126
        clear hn ho hu
        have f4 := HW0.out
        go_simp
        exact hK _ _ (keeps_refl _) hI rfl
      · intro _ a w1 vs hI ho hn hu K hK
        obtain ⟨e127, g127⟩ : a.tmps[127]? = some (vs 8) ∧ vs 8 = .int .i64 ((l.length : Int) + (m.length : Int)) := hn 8 (by decide)
        rw [g127] at e127
        clear g127
        clear hn ho hu
        have i1 := HBG.out
        go_simp
        exact hK _ _ (keeps_refl _) hI rfl
      · intro _ a w1 vs hI ho hn hu K hK
        obtain ⟨e122, g122⟩ : a.tmps[122]? = some (vs 3) ∧ vs 3 = .bool false := hn 3 (by decide)
        rw [g122] at e122
        clear g122
        obtain ⟨e128, g128⟩ : a.tmps[128]? = some (vs 9) ∧ vs 9 = .bool false := hn 9 (by decide)
        rw [g128] at e128
        clear g128
        clear hn ho hu
        go_simp
        exact hK _ _ (keeps_refl _) hI rfl
      · intro _ a w1 vs hI ho hn hu K hK
        obtain ⟨e129, g129⟩ : a.tmps[129]? = some (vs 10) ∧ vs 10 = .bool false := hn 10 (by decide)
        rw [g129] at e129
        clear g129
        clear hn ho hu
        go_simp
        exact hK _ _ (keeps_refl _) hI rfl
      · intro _ a w1 vs hI ho hn hu K hK
        have e13 : a.tmps[13]? = some (.slice p3 l.length q3) := ho 13 rfl
        clear hn ho hu
        go_simp
        exact hK _ _ (keeps_refl _) hI rfl
      · intro _ a w1 vs hI ho hn hu K hK
        obtain ⟨e131, g131⟩ : a.tmps[131]? = some (vs 12) ∧ vs 12 = .slice p3 l.length q3 := hn 12 (by decide)
        rw [g131] at e131
        clear g131
        clear hn ho hu
        go_simp
        exact hK _ _ (keeps_refl _) hI rfl
      · intro _ a w1 vs hI ho hn hu K hK
        obtain ⟨e132, g132⟩ : a.tmps[132]? = some (vs 13) ∧ vs 13 = .int .i64 (l.length : Int) := hn 13 (by decide)
        rw [g132] at e132
        clear g132
        clear hn ho hu
        have i1 := HZ0.out.1.1
        have i2 := HZ0.out.1.2
        have i3 := HZ0.out.2
        go_simp
        exact hK _ _ (keeps_refl _) hI rfl
      · intro _ a w1 vs hI ho hn hu K hK
        obtain ⟨e133, g133⟩ : a.tmps[133]? = some (vs 14) ∧ vs 14 = .bool true := hn 14 (by decide)
        rw [g133] at e133
        clear g133
        clear hn ho hu
        go_simp
        exact hK _ _ (keeps_refl _) hI rfl
      · intro _ a w1 vs hI ho hn hu K hK
        have e19 : a.tmps[19]? = some (.slice p4 m.length q4) := ho 19 rfl
        clear hn ho hu
        go_simp
        exact hK _ _ (keeps_refl _) hI rfl
      · intro _ a w1 vs hI ho hn hu K hK
        obtain ⟨e135, g135⟩ : a.tmps[135]? = some (vs 16) ∧ vs 16 = .slice p4 m.length q4 := hn 16 (by decide)
        rw [g135] at e135
        clear g135
        clear hn ho hu
        go_simp
        exact hK _ _ (keeps_refl _) hI rfl
      · intro _ a w1 vs hI ho hn hu K hK
        obtain ⟨e136, g136⟩ : a.tmps[136]? = some (vs 17) ∧ vs 17 = .int .i64 (m.length : Int) := hn 17 (by decide)
        rw [g136] at e136
        clear g136
        clear hn ho hu
        have i1 := HZ1.out.1.1
        have i2 := HZ1.out.1.2
        have i3 := HZ1.out.2
        go_simp
        exact hK _ _ (keeps_refl _) hI rfl
      · intro _ a w1 vs hI ho hn hu K hK
        obtain ⟨e134, g134⟩ : a.tmps[134]? = some (vs 15) ∧ vs 15 = .bool true := hn 15 (by decide)
        rw [g134] at e134
        clear g134
        obtain ⟨e137, g137⟩ : a.tmps[137]? = some (vs 18) ∧ vs 18 = .bool false := hn 18 (by decide)
        rw [g137] at e137
        clear g137
        clear hn ho hu
        go_simp
        exact hK _ _ (keeps_refl _) hI rfl
      · intro _ a w1 vs hI ho hn hu K hK
        obtain ⟨e138, g138⟩ : a.tmps[138]? = some (vs 19) ∧ vs 19 = .bool false := hn 19 (by decide)
        rw [g138] at e138
        clear g138
        clear hn ho hu
        go_simp
        exact hK _ _ (keeps_refl _) hI rfl
      · intro hs; cases hs
      · intro hs; cases hs
      · intro hs; cases hs
      · intro hs; cases hs
      · intro hs; cases hs
      · intro hs; cases hs
      · intro hs; cases hs
      · intro hs; cases hs
      · intro hs; cases hs
      · intro hs; cases hs
      · intro hs; cases hs
      · intro hs; cases hs
      · intro _ a w1 vs hI ho hn hu K hK
        obtain ⟨e139, g139⟩ : a.tmps[139]? = some (vs 20) ∧ vs 20 = .bool false := hn 20 (by decide)
        rw [g139] at e139
        clear g139
        obtain ⟨e151, g151⟩ : a.tmps[151]? = some (vs 32) ∧ vs 32 = undef := hn 32 (by decide)
        rw [g151] at e151
        clear g151
        clear hn ho hu
        go_simp
        exact hK _ _ (keeps_refl _) hI rfl
      · intro _ a w1 vs hI ho hn hu K hK
        obtain ⟨e130, g130⟩ : a.tmps[130]? = some (vs 11) ∧ vs 11 = .bool false := hn 11 (by decide)
        rw [g130] at e130
        clear g130
        obtain ⟨e152, g152⟩ : a.tmps[152]? = some (vs 33) ∧ vs 33 = .bool false := hn 33 (by decide)
        rw [g152] at e152
        clear g152
        clear hn ho hu
        go_simp
        exact hK _ _ (keeps_refl _) hI rfl
    · intro vs wE hI hG
      have eL34 : vs 34 = .bool false := hG 34 (by decide)
      have HKE := Lib.hid hI
      clear hG hI
      simp only [setAll, Nat.zero_add, Nat.reduceAdd, List.setIfInBounds_toArray, List.set_cons_zero, List.set_cons_succ, eL34]
      clear eL34
      generalize vs 0 = y0 at *
      generalize vs 1 = y1 at *
      generalize vs 2 = y2 at *
      generalize vs 3 = y3 at *
      generalize vs 4 = y4 at *
      generalize vs 5 = y5 at *
      generalize vs 6 = y6 at *
      generalize vs 7 = y7 at *
      generalize vs 8 = y8 at *
      generalize vs 9 = y9 at *
      generalize vs 10 = y10 at *
      generalize vs 11 = y11 at *
      generalize vs 12 = y12 at *
      generalize vs 13 = y13 at *
      generalize vs 14 = y14 at *
      generalize vs 15 = y15 at *
      generalize vs 16 = y16 at *
      generalize vs 17 = y17 at *
      generalize vs 18 = y18 at *
      generalize vs 19 = y19 at *
      generalize vs 20 = y20 at *
      generalize vs 21 = y21 at *
      generalize vs 22 = y22 at *
      generalize vs 23 = y23 at *
      generalize vs 24 = y24 at *
      generalize vs 25 = y25 at *
      generalize vs 26 = y26 at *
      generalize vs 27 = y27 at *
      generalize vs 28 = y28 at *
      generalize vs 29 = y29 at *
      generalize vs 30 = y30 at *
      generalize vs 31 = y31 at *
      generalize vs 32 = y32 at *
      generalize vs 33 = y33 at *
      have HKW := Lib.hid (HK9.out.trans HKE.out)
      have HA := Lib.hid (EntsAt.keeps H9.out HKE.out)
      have HB := Lib.hid (EntsAt.keeps HN.out HKE.out)
      clear HKE
      obtain ⟨us, hu1, hu2, hu3, hu4, hu5⟩ := ents_cells HA.out
      obtain ⟨vs9, hv1, hv2, hv3, hv4, hv5⟩ := ents_cells HB.out
      have HU2 := Lib.hid hu2
      have HU5 := Lib.hid hu5
      have HV2 := Lib.hid hv2
      have HV4 := Lib.hid hv4
      have HV5 := Lib.hid hv5
      have HOW : Hid (∀ v' w', w'.ownsRow wE.heap.size 33 4 v' (l.length + m.length) (us.flatten ++ vs9.flatten) → Keeps wE w' → EntsAt w'.heap v' (l ++ m)) := fun v' w' ho hk => ents_both hu1 hu3 hv1 hv3 ho rfl hk (by omega)
      clear hu1 hu2 hu3 hu4 hu5 hv1 hv2 hv3 hv4 hv5
      go_wp2_with (at_builtin; first | (refine wpList_plain rfl fun _ hK => oper_freshR elEntG rfl (.tmp 154) (.tmp 155) rfl wE.heap.size wE.heap.size rfl (own_empty0 wE wE.heap.size 33 4 (Nat.le_refl _)) (by simp) _ l.length _ us.flatten rfl HU2.out (fun h0 => let ⟨b, o, e, hc⟩ := HU5.out h0; ⟨b, o, e, fun j hj => keeps_cell (kal _ _) (hc j hj)⟩) (by omega) fun v7 w7 ow7 hk7 => hK _ _ ?_; obtain ⟨pv, qv, rfl⟩ := own_slice9 ow7; have HO7 := Lib.hid ow7; have HK7 := Lib.hid ((kal wE (.cells #[] 33)).trans hk7); clear ow7 hk7) | (refine wpList_plain rfl fun _ hK => oper_recsA elEntG rfl (.tmp 156) (.tmp 157) rfl wE.heap.size _ l.length us.flatten rfl HO7.out _ m.length _ vs9.flatten rfl HV2.out (fun h0 => let ⟨b, o, e, hc⟩ := HV5.out h0; ⟨b, o, e, fun j hj => keeps_cell HK7.out (hc j hj)⟩) HV4.out (by omega) HK7.out.size fun v8 w8 ow8 hc8 => hK _ _ ?_; have HK8 : Hid (Keeps wE w8) := HK7.out.then (chg_kept (B := wE.heap.size) hc8 (fun q _ e => (own_blockK HO7.out q e).1) HK7.out.size) (Nat.le_refl _); have HE8 := Lib.hid (HOW.out _ _ ow8 HK8.out); clear ow8 hc8))
      refine Calls.mono (nmay_any _ (l ++ m) _ HE8.out) ?_
      rintro e w9 ⟨rfl, hk9⟩
      have HK9 := Lib.hid (HKW.out.trans (HK8.out.trans hk9))
      rw [HJ.out]
      clear hk9
      go_wp2_with fail
      go_ret
      exact ⟨rfl, HK9.out⟩
  have HZ1 : Hid ((decide ((0 : Int) < (m.length : Int)) = true ∧ decide (0 < m.length) = true) ∧ 0 < m.length) := ⟨⟨decide_eq_true (by omega), decide_eq_true (by omega)⟩, by omega⟩
  obtain ⟨kp, hkp⟩ : ∃ kp, l.length = kp + 1 := ⟨l.length - 1, by omega⟩
  obtain ⟨b1, o1, _, _, rfl, _, c1, _⟩ := ent_cell H9.out (i := kp) (by omega)
  obtain ⟨b2, o2, _, _, rfl, _, c2, _⟩ := ent_cell HN.out (i := 0) (by omega)
  have HW1 : Hid ((l.length : Int) - 1 = (kp : Int) ∧ IntKind.i64.wrap (kp : Int) = (kp : Int)) := ⟨by omega, IntWalk.i64_in _ (by omega)⟩
  have HW2 : Hid ((0 : Int) ≤ (kp : Int) ∧ (kp : Int) < (l.length : Int)) := ⟨by omega, by omega⟩
  have HW3 : Hid ((0 : Int) < (m.length : Int)) := by show _ < _; omega
  have HW4 : Hid (¬ m.length = 0) := h1
  have hjl : 0 < l.length → 0 < m.length → lessT (eAt l kp).n (eAt m 0).n = true → mayL (l ++ m) = true := fun _ _ e => may_join HML.out HMM.out (by omega) fun _ _ => by rw [show l.length - 1 = kp by omega]; exact e
  have HJ0 := Lib.hid (hjl (by omega) (by omega))
  rw [Nat.zero_mul, Nat.add_zero] at c2
  have Q0 := Lib.hid c1
  have Q1 := Lib.hid c2
  cases hlt : lessT (eAt l kp).n (eAt m 0).n with
  | false =>
    have HLS : Hid (Op.bytesLess (eAt l kp).n.toList (eAt m 0).n.toList = false) := hlt
    clear c1 c2 hjl HJ0 hlt h0 h1 hkp
    generalize (eAt l kp).n = Pn at *
    generalize (eAt m 0).n = Qn at *
    refine wp_region_stage [119, 120, 121, 122, 123, 124, 125, 126, 127, 128, 129, 130, 131, 132, 133, 134, 135, 136, 137, 138, 139, 140, 141, 142, 143, 144, 145, 146, 147, 148, 149, 150, 151, 152, 153] [[], [0], [1], [2], [3], [3, 4], [3], [3, 6], [3, 5, 7], [3, 8], [3, 9], [10], [11], [11, 12], [11, 13], [11, 14], [15], [15, 16], [15, 17], [11, 15, 18], [11, 19], [20], [20], [20, 22], [20, 23], [20, 21, 24], [20, 25], [20, 26], [20], [20, 28], [20, 29], [20, 30], [20, 27, 31], [11, 20, 32], [11, 33]] [] [0, 0, 0, 0, 0, 0, 0, 0, 0, 0, 0, 0, 0, 0, 0, 0, 0, 0, 0, 0, 0, 0, 0, 0, 0, 0, 0, 0, 0, 0, 0, 0, 0, 0, 0] [] (fun i v _ => nbkE (some ⟨b1, o1, none⟩) (some ⟨b2, o2, none⟩) l.length m.length q3 q4 b1 o1 b2 o2 kp Pn Qn i v) (fun w w' => Keeps w w') (fun _ _ w' => Keeps wg w') (by kernel_rfl) (by kernel_rfl) (by kernel_rfl) (by kernel_rfl) (by kernel_rfl) (by kernel_rfl) (by kernel_rfl) ?_ ?_ ?_ ?_ ?_ ?_ ?_
    · exact fun i v w w' c h => h
    · exact fun w => keeps_refl w
    · exact fun i s vs w _ h => h
    · refine ⟨?_, ?_, ?_, ?_, ?_, ?_, ?_, ?_, ?_, ?_, ?_, ?_, ?_, ?_, ?_, ?_, ?_, ?_, ?_, ?_, ?_, ?_, ?_, ?_, ?_, ?_, ?_, ?_, ?_, ?_, ?_, ?_, ?_, ?_, ?_, trivial⟩
      · exact fun g b h => by (cases h)
      · exact fun g b h => by (cases h)
      · exact fun g b h => by (cases h)
      · exact fun g b h => by (cases h)
      · exact fun g b h => by (cases h; exact ⟨by decide, fun v w h => h⟩)
      · exact fun g b h => by (cases h; exact ⟨by decide, fun v w h => h⟩)
      · exact fun g b h => by (cases h; exact ⟨by decide, fun v w h => h⟩)
      · exact fun g b h => by (cases h; exact ⟨by decide, fun v w h => h⟩)
      · exact fun g b h => by (cases h; exact ⟨by decide, fun v w h => h⟩)
      · exact fun g b h => by (cases h; exact ⟨by decide, fun v w h => h⟩)
      · exact fun g b h => by (cases h)
      · exact fun g b h => by (cases h)
      · exact fun g b h => by (cases h; exact ⟨by decide, fun v w h => h⟩)
      · exact fun g b h => by (cases h; exact ⟨by decide, fun v w h => h⟩)
      · exact fun g b h => by (cases h; exact ⟨by decide, fun v w h => h⟩)
      · exact fun g b h => by (cases h; exact ⟨by decide, fun v w h => h⟩)
      · exact fun g b h => by (cases h; exact ⟨by decide, fun v w h => h⟩)
      · exact fun g b h => by (cases h; exact ⟨by decide, fun v w h => h⟩)
      · exact fun g b h => by (cases h; exact ⟨by decide, fun v w h => h⟩)
      · exact fun g b h => by (cases h; exact ⟨by decide, fun v w h => h⟩)
      · exact fun g b h => by (cases h; exact ⟨by decide, fun v w h => h⟩)
      · exact fun g b h => by (cases h; exact ⟨by decide, fun v w h => h⟩)
      · exact fun g b h => by (cases h; exact ⟨by decide, fun v w h => h⟩)
      · exact fun g b h => by (cases h; exact ⟨by decide, fun v w h => h⟩)
      · exact fun g b h => by (cases h; exact ⟨by decide, fun v w h => h⟩)
      · exact fun g b h => by (cases h; exact ⟨by decide, fun v w h => h⟩)
      · exact fun g b h => by (cases h; exact ⟨by decide, fun v w h => h⟩)
      · exact fun g b h => by (cases h; exact ⟨by decide, fun v w h => h⟩)
      · exact fun g b h => by (cases h; exact ⟨by decide, fun v w h => h⟩)
      · exact fun g b h => by (cases h; exact ⟨by decide, fun v w h => h⟩)
      · exact fun g b h => by (cases h; exact ⟨by decide, fun v w h => h⟩)
      · exact fun g b h => by (cases h; exact ⟨by decide, fun v w h => h⟩)
      · exact fun g b h => by (cases h; exact ⟨by decide, fun v w h => h⟩)
      · exact fun g b h => by (cases h; exact ⟨by decide, fun v w h => h⟩)
      · exact fun g b h => by (cases h)
    · exact fun _ _ => keeps_refl wg
    · refine ⟨?_, ?_, ?_, ?_, ?_, ?_, ?_, ?_, ?_, ?_, ?_, ?_, ?_, ?_, ?_, ?_, ?_, ?_, ?_, ?_, ?_, ?_, ?_, ?_, ?_, ?_, ?_, ?_, ?_, ?_, ?_, ?_, ?_, ?_, ?_, trivial⟩
      · intro _ a w1 vs hI ho hn hu K hK
        have e19 : a.tmps[19]? = some (.slice (some ⟨b2, o2, none⟩) m.length q4) := ho 19 rfl
        clear hn ho hu
        go_simp
        exact hK _ _ (keeps_refl _) hI rfl
      · intro _ a w1 vs hI ho hn hu K hK
        obtain ⟨e119, g119⟩ : a.tmps[119]? = some (vs 0) ∧ vs 0 = .slice (some ⟨b2, o2, none⟩) m.length q4 := hn 0 (by decide)
        rw [g119] at e119
        clear g119
        clear hn ho hu
        go_simp
        refine Calls.mono (HMC.out _ hI) ?_
        rintro e w' ⟨rfl, hk2⟩
        go_simp
        exact hK _ _ hk2 (Keeps.trans hI hk2) rfl
      · intro _ a w1 vs hI ho hn hu K hK
        obtain ⟨e120, g120⟩ : a.tmps[120]? = some (vs 1) ∧ vs 1 = .bool true := hn 1 (by decide)
        rw [g120] at e120
        clear g120
        clear hn ho hu
        go_simp
        exact hK _ _ (keeps_refl _) hI rfl
      · intro _ a w1 vs hI ho hn hu K hK
        obtain ⟨e121, g121⟩ : a.tmps[121]? = some (vs 2) ∧ vs 2 = .bool false := hn 2 (by decide)
        rw [g121] at e121
        clear g121
        clear hn ho hu
        go_simp
        exact hK _ _ (keeps_refl _) hI rfl
      · intro _ a w1 vs hI ho hn hu K hK
        have e13 : a.tmps[13]? = some (.slice (some ⟨b1, o1, none⟩) l.length q3) := ho 13 rfl
        clear hn ho hu
        go_simp
        exact hK _ _ (keeps_refl _) hI rfl
      · intro _ a w1 vs hI ho hn hu K hK
        obtain ⟨e123, g123⟩ : a.tmps[123]? = some (vs 4) ∧ vs 4 = .slice (some ⟨b1, o1, none⟩) l.length q3 := hn 4 (by decide)
        rw [g123] at e123
        clear g123
        clear hn ho hu
        go_simp
        exact hK _ _ (keeps_refl _) hI rfl
      · intro _ a w1 vs hI ho hn hu K hK
        have e19 : a.tmps[19]? = some (.slice (some ⟨b2, o2, none⟩) m.length q4) := ho 19 rfl
        clear hn ho hu
        go_simp
        exact hK _ _ (keeps_refl _) hI rfl
      · intro _ a w1 vs hI ho hn hu K hK
        obtain ⟨e125, g125⟩ : a.tmps[125]? = some (vs 6) ∧ vs 6 = .slice (some ⟨b2, o2, none⟩) m.length q4 := hn 6 (by decide)
        rw [g125] at e125
        clear g125
        clear hn ho hu
        go_simp
        exact hK _ _ (keeps_refl _) hI rfl
      · intro _ a w1 vs hI ho hn hu K hK
        obtain ⟨e124, g124⟩ : a.tmps[124]? = some (vs 5) ∧ vs 5 = .int .i64 (l.length : Int) := hn 5 (by decide)
        rw [g124] at e124
        clear g124
        obtain ⟨e126, g126⟩ : a.tmps[126]? = some (vs 7) ∧ vs 7 = .int .i64 (m.length : Int) := hn 7 (by decide)
        rw [g126] at e126
        clear g126
        clear hn ho hu
        have f4 := HW0.out
        go_simp
        exact hK _ _ (keeps_refl _) hI rfl
      · intro _ a w1 vs hI ho hn hu K hK
        obtain ⟨e127, g127⟩ : a.tmps[127]? = some (vs 8) ∧ vs 8 = .int .i64 ((l.length : Int) + (m.length : Int)) := hn 8 (by decide)
        rw [g127] at e127
        clear g127
        clear hn ho hu
        have i1 := HBG.out
        go_simp
        exact hK _ _ (keeps_refl _) hI rfl
      · intro _ a w1 vs hI ho hn hu K hK
        obtain ⟨e122, g122⟩ : a.tmps[122]? = some (vs 3) ∧ vs 3 = .bool false := hn 3 (by decide)
        rw [g122] at e122
        clear g122
        obtain ⟨e128, g128⟩ : a.tmps[128]? = some (vs 9) ∧ vs 9 = .bool false := hn 9 (by decide)
        rw [g128] at e128
        clear g128
        clear hn ho hu
        go_simp
        exact hK _ _ (keeps_refl _) hI rfl
      · intro _ a w1 vs hI ho hn hu K hK
        obtain ⟨e129, g129⟩ : a.tmps[129]? = some (vs 10) ∧ vs 10 = .bool false := hn 10 (by decide)
        rw [g129] at e129
        clear g129
        clear hn ho hu
        go_simp
        exact hK _ _ (keeps_refl _) hI rfl
      · intro _ a w1 vs hI ho hn hu K hK
        have e13 : a.tmps[13]? = some (.slice (some ⟨b1, o1, none⟩) l.length q3) := ho 13 rfl
        clear hn ho hu
        go_simp
        exact hK _ _ (keeps_refl _) hI rfl
      · intro _ a w1 vs hI ho hn hu K hK
        obtain ⟨e131, g131⟩ : a.tmps[131]? = some (vs 12) ∧ vs 12 = .slice (some ⟨b1, o1, none⟩) l.length q3 := hn 12 (by decide)
        rw [g131] at e131
        clear g131
        clear hn ho hu
        go_simp
        exact hK _ _ (keeps_refl _) hI rfl
      · intro _ a w1 vs hI ho hn hu K hK
        obtain ⟨e132, g132⟩ : a.tmps[132]? = some (vs 13) ∧ vs 13 = .int .i64 (l.length : Int) := hn 13 (by decide)
        rw [g132] at e132
        clear g132
        clear hn ho hu
        have i1 := HZ0.out.1.1
        have i2 := HZ0.out.1.2
        have i3 := HZ0.out.2
        go_simp
        exact hK _ _ (keeps_refl _) hI rfl
      · intro _ a w1 vs hI ho hn hu K hK
        obtain ⟨e133, g133⟩ : a.tmps[133]? = some (vs 14) ∧ vs 14 = .bool true := hn 14 (by decide)
        rw [g133] at e133
        clear g133
        clear hn ho hu
        go_simp
        exact hK _ _ (keeps_refl _) hI rfl
      · intro _ a w1 vs hI ho hn hu K hK
        have e19 : a.tmps[19]? = some (.slice (some ⟨b2, o2, none⟩) m.length q4) := ho 19 rfl
        clear hn ho hu
        go_simp
        exact hK _ _ (keeps_refl _) hI rfl
      · intro _ a w1 vs hI ho hn hu K hK
        obtain ⟨e135, g135⟩ : a.tmps[135]? = some (vs 16) ∧ vs 16 = .slice (some ⟨b2, o2, none⟩) m.length q4 := hn 16 (by decide)
        rw [g135] at e135
        clear g135
        clear hn ho hu
        go_simp
        exact hK _ _ (keeps_refl _) hI rfl
      · intro _ a w1 vs hI ho hn hu K hK
        obtain ⟨e136, g136⟩ : a.tmps[136]? = some (vs 17) ∧ vs 17 = .int .i64 (m.length : Int) := hn 17 (by decide)
        rw [g136] at e136
        clear g136
        clear hn ho hu
        have i1 := HZ1.out.1.1
        have i2 := HZ1.out.1.2
        have i3 := HZ1.out.2
        go_simp
        exact hK _ _ (keeps_refl _) hI rfl
      · intro _ a w1 vs hI ho hn hu K hK
        obtain ⟨e134, g134⟩ : a.tmps[134]? = some (vs 15) ∧ vs 15 = .bool true := hn 15 (by decide)
        rw [g134] at e134
        clear g134
        obtain ⟨e137, g137⟩ : a.tmps[137]? = some (vs 18) ∧ vs 18 = .bool true := hn 18 (by decide)
        rw [g137] at e137
        clear g137
        clear hn ho hu
        go_simp
        exact hK _ _ (keeps_refl _) hI rfl
      · intro _ a w1 vs hI ho hn hu K hK
        obtain ⟨e138, g138⟩ : a.tmps[138]? = some (vs 19) ∧ vs 19 = .bool true := hn 19 (by decide)
        rw [g138] at e138
        clear g138
        clear hn ho hu
        go_simp
        exact hK _ _ (keeps_refl _) hI rfl
      · intro _ a w1 vs hI ho hn hu K hK
        have e13 : a.tmps[13]? = some (.slice (some ⟨b1, o1, none⟩) l.length q3) := ho 13 rfl
        clear hn ho hu
        go_simp
        exact hK _ _ (keeps_refl _) hI rfl
      · intro _ a w1 vs hI ho hn hu K hK
        have e13 : a.tmps[13]? = some (.slice (some ⟨b1, o1, none⟩) l.length q3) := ho 13 rfl
        clear hn ho hu
        go_simp
        exact hK _ _ (keeps_refl _) hI rfl
      · intro _ a w1 vs hI ho hn hu K hK
        obtain ⟨e141, g141⟩ : a.tmps[141]? = some (vs 22) ∧ vs 22 = .slice (some ⟨b1, o1, none⟩) l.length q3 := hn 22 (by decide)
        rw [g141] at e141
        clear g141
        clear hn ho hu
        go_simp
        exact hK _ _ (keeps_refl _) hI rfl
      · intro _ a w1 vs hI ho hn hu K hK
        obtain ⟨e142, g142⟩ : a.tmps[142]? = some (vs 23) ∧ vs 23 = .int .i64 (l.length : Int) := hn 23 (by decide)
        rw [g142] at e142
        clear g142
        clear hn ho hu
        have i1 := HW1.out.1
        have i2 := HW1.out.2
        go_simp
        exact hK _ _ (keeps_refl _) hI rfl
      · intro _ a w1 vs hI ho hn hu K hK
        obtain ⟨e140, g140⟩ : a.tmps[140]? = some (vs 21) ∧ vs 21 = .slice (some ⟨b1, o1, none⟩) l.length q3 := hn 21 (by decide)
        rw [g140] at e140
        clear g140
        obtain ⟨e143, g143⟩ : a.tmps[143]? = some (vs 24) ∧ vs 24 = .int .i64 (kp : Int) := hn 24 (by decide)
        rw [g143] at e143
        clear g143
        clear hn ho hu
        have i1 := HW2.out.1
        have i2 := HW2.out.2
        go_simp
        exact hK _ _ (keeps_refl _) hI rfl
      · intro _ a w1 vs hI ho hn hu K hK
        obtain ⟨e144, g144⟩ : a.tmps[144]? = some (vs 25) ∧ vs 25 = .pointer (some ⟨b1, o1 + kp * 4, none⟩) := hn 25 (by decide)
        rw [g144] at e144
        clear g144
        clear hn ho hu
        go_simp
        exact hK _ _ (keeps_refl _) hI rfl
      · intro _ a w1 vs hI ho hn hu K hK
        obtain ⟨e145, g145⟩ : a.tmps[145]? = some (vs 26) ∧ vs 26 = .pointer (some ⟨b1, o1 + kp * 4, none⟩) := hn 26 (by decide)
        rw [g145] at e145
        clear g145
        clear hn ho hu
        have c0 := keeps_cell hI Q0.out
        go_simp
        exact hK _ _ (keeps_refl _) hI rfl
      · intro _ a w1 vs hI ho hn hu K hK
        have e19 : a.tmps[19]? = some (.slice (some ⟨b2, o2, none⟩) m.length q4) := ho 19 rfl
        clear hn ho hu
        go_simp
        exact hK _ _ (keeps_refl _) hI rfl
      · intro _ a w1 vs hI ho hn hu K hK
        obtain ⟨e147, g147⟩ : a.tmps[147]? = some (vs 28) ∧ vs 28 = .slice (some ⟨b2, o2, none⟩) m.length q4 := hn 28 (by decide)
        rw [g147] at e147
        clear g147
        clear hn ho hu
        have i1 := HW3.out
        have i2 := HZ1.out.2
        have i3 := HW4.out
        go_simp
        exact hK _ _ (keeps_refl _) hI rfl
      · intro _ a w1 vs hI ho hn hu K hK
        obtain ⟨e148, g148⟩ : a.tmps[148]? = some (vs 29) ∧ vs 29 = .pointer (some ⟨b2, o2, none⟩) := hn 29 (by decide)
        rw [g148] at e148
        clear g148
        clear hn ho hu
        go_simp
        exact hK _ _ (keeps_refl _) hI rfl
      · intro _ a w1 vs hI ho hn hu K hK
        obtain ⟨e149, g149⟩ : a.tmps[149]? = some (vs 30) ∧ vs 30 = .pointer (some ⟨b2, o2, none⟩) := hn 30 (by decide)
        rw [g149] at e149
        clear g149
        clear hn ho hu
        have c0 := keeps_cell hI Q1.out
        go_simp
        exact hK _ _ (keeps_refl _) hI rfl
      · intro _ a w1 vs hI ho hn hu K hK
        obtain ⟨e146, g146⟩ : a.tmps[146]? = some (vs 27) ∧ vs 27 = .string Pn := hn 27 (by decide)
        rw [g146] at e146
        clear g146
        obtain ⟨e150, g150⟩ : a.tmps[150]? = some (vs 31) ∧ vs 31 = .string Qn := hn 31 (by decide)
        rw [g150] at e150
        clear g150
        clear hn ho hu
        have i1 := HLS.out
        go_simp
        exact hK _ _ (keeps_refl _) hI rfl
      · intro _ a w1 vs hI ho hn hu K hK
        obtain ⟨e139, g139⟩ : a.tmps[139]? = some (vs 20) ∧ vs 20 = .bool true := hn 20 (by decide)
        rw [g139] at e139
        clear g139
        obtain ⟨e151, g151⟩ : a.tmps[151]? = some (vs 32) ∧ vs 32 = .bool true := hn 32 (by decide)
        rw [g151] at e151
        clear g151
        clear hn ho hu
        go_simp
        exact hK _ _ (keeps_refl _) hI rfl
      · intro _ a w1 vs hI ho hn hu K hK
        obtain ⟨e130, g130⟩ : a.tmps[130]? = some (vs 11) ∧ vs 11 = .bool false := hn 11 (by decide)
        rw [g130] at e130
        clear g130
        obtain ⟨e152, g152⟩ : a.tmps[152]? = some (vs 33) ∧ vs 33 = .bool true := hn 33 (by decide)
        rw [g152] at e152
        clear g152
        clear hn ho hu
        go_simp
        exact hK _ _ (keeps_refl _) hI rfl
    · intro vs wE hI hG
      have eL34 : vs 34 = .bool true := hG 34 (by decide)
      have HKE := Lib.hid hI
      clear hG hI
      simp only [setAll, Nat.zero_add, Nat.reduceAdd, List.setIfInBounds_toArray, List.set_cons_zero, List.set_cons_succ, eL34]
      clear eL34
      generalize vs 0 = y0 at *
      generalize vs 1 = y1 at *
      generalize vs 2 = y2 at *
      generalize vs 3 = y3 at *
      generalize vs 4 = y4 at *
      generalize vs 5 = y5 at *
      generalize vs 6 = y6 at *
      generalize vs 7 = y7 at *
      generalize vs 8 = y8 at *
      generalize vs 9 = y9 at *
      generalize vs 10 = y10 at *
      generalize vs 11 = y11 at *
      generalize vs 12 = y12 at *
      generalize vs 13 = y13 at *
      generalize vs 14 = y14 at *
      generalize vs 15 = y15 at *
      generalize vs 16 = y16 at *
      generalize vs 17 = y17 at *
      generalize vs 18 = y18 at *
      generalize vs 19 = y19 at *
      generalize vs 20 = y20 at *
      generalize vs 21 = y21 at *
      generalize vs 22 = y22 at *
      generalize vs 23 = y23 at *
      generalize vs 24 = y24 at *
      generalize vs 25 = y25 at *
      generalize vs 26 = y26 at *
      generalize vs 27 = y27 at *
      generalize vs 28 = y28 at *
      generalize vs 29 = y29 at *
      generalize vs 30 = y30 at *
      generalize vs 31 = y31 at *
      generalize vs 32 = y32 at *
      generalize vs 33 = y33 at *
      have HKW := Lib.hid (HK9.out.trans HKE.out)
      clear HKE
      go_wp2_with fail
      go_ret
      exact ⟨rfl, HKW.out⟩
  | true =>
    have HLS : Hid (Op.bytesLess (eAt l kp).n.toList (eAt m 0).n.toList = true) := hlt
    have HJ := Lib.hid (HJ0.out hlt)
    clear c1 c2 hjl HJ0 hlt h0 h1 hkp
    generalize (eAt l kp).n = Pn at *
    generalize (eAt m 0).n = Qn at *
    refine wp_region_stage [119, 120, 121, 122, 123, 124, 125, 126, 127, 128, 129, 130, 131, 132, 133, 134, 135, 136, 137, 138, 139, 140, 141, 142, 143, 144, 145, 146, 147, 148, 149, 150, 151, 152, 153] [[], [0], [1], [2], [3], [3, 4], [3], [3, 6], [3, 5, 7], [3, 8], [3, 9], [10], [11], [11, 12], [11, 13], [11, 14], [15], [15, 16], [15, 17], [11, 15, 18], [11, 19], [20], [20], [20, 22], [20, 23], [20, 21, 24], [20, 25], [20, 26], [20], [20, 28], [20, 29], [20, 30], [20, 27, 31], [11, 20, 32], [11, 33]] [] [0, 0, 0, 0, 0, 0, 0, 0, 0, 0, 0, 0, 0, 0, 0, 0, 0, 0, 0, 0, 0, 0, 0, 0, 0, 0, 0, 0, 0, 0, 0, 0, 0, 0, 0] [] (fun i v _ => nbkF (some ⟨b1, o1, none⟩) (some ⟨b2, o2, none⟩) l.length m.length q3 q4 b1 o1 b2 o2 kp Pn Qn i v) (fun w w' => Keeps w w') (fun _ _ w' => Keeps wg w') (by kernel_rfl) (by kernel_rfl) (by kernel_rfl) (by kernel_rfl) (by kernel_rfl) (by kernel_rfl) (by kernel_rfl) ?_ ?_ ?_ ?_ ?_ ?_ ?_
    · exact fun i v w w' c h => h
    · exact fun w => keeps_refl w
    · exact fun i s vs w _ h => h
    · refine ⟨?_, ?_, ?_, ?_, ?_, ?_, ?_, ?_, ?_, ?_, ?_, ?_, ?_, ?_, ?_, ?_, ?_, ?_, ?_, ?_, ?_, ?_, ?_, ?_, ?_, ?_, ?_, ?_, ?_, ?_, ?_, ?_, ?_, ?_, ?_, trivial⟩
      · exact fun g b h => by (cases h)
      · exact fun g b h => by (cases h)
      · exact fun g b h => by (cases h)
      · exact fun g b h => by (cases h)
      · exact fun g b h => by (cases h; exact ⟨by decide, fun v w h => h⟩)
      · exact fun g b h => by (cases h; exact ⟨by decide, fun v w h => h⟩)
      · exact fun g b h => by (cases h; exact ⟨by decide, fun v w h => h⟩)
      · exact fun g b h => by (cases h; exact ⟨by decide, fun v w h => h⟩)
      · exact fun g b h => by (cases h; exact ⟨by decide, fun v w h => h⟩)
      · exact fun g b h => by (cases h; exact ⟨by decide, fun v w h => h⟩)
      · exact fun g b h => by (cases h)
      · exact fun g b h => by (cases h)
      · exact fun g b h => by (cases h; exact ⟨by decide, fun v w h => h⟩)
      · exact fun g b h => by (cases h; exact ⟨by decide, fun v w h => h⟩)
      · exact fun g b h => by (cases h; exact ⟨by decide, fun v w h => h⟩)
      · exact fun g b h => by (cases h; exact ⟨by decide, fun v w h => h⟩)
      · exact fun g b h => by (cases h; exact ⟨by decide, fun v w h => h⟩)
      · exact fun g b h => by (cases h; exact ⟨by decide, fun v w h => h⟩)
      · exact fun g b h => by (cases h; exact ⟨by decide, fun v w h => h⟩)
      · exact fun g b h => by (cases h; exact ⟨by decide, fun v w h => h⟩)
      · exact fun g b h => by (cases h; exact ⟨by decide, fun v w h => h⟩)
      · exact fun g b h => by (cases h; exact ⟨by decide, fun v w h => h⟩)
      · exact fun g b h => by (cases h; exact ⟨by decide, fun v w h => h⟩)
      · exact fun g b h => by (cases h; exact ⟨by decide, fun v w h => h⟩)
      · exact fun g b h => by (cases h; exact ⟨by decide, fun v w h => h⟩)
      · exact fun g b h => by (cases h; exact ⟨by decide, fun v w h => h⟩)
      · exact fun g b h => by (cases h; exact ⟨by decide, fun v w h => h⟩)
      · exact fun g b h => by (cases h; exact ⟨by decide, fun v w h => h⟩)
      · exact fun g b h => by (cases h; exact ⟨by decide, fun v w h => h⟩)
      · exact fun g b h => by (cases h; exact ⟨by decide, fun v w h => h⟩)
      · exact fun g b h => by (cases h; exact ⟨by decide, fun v w h => h⟩)
      · exact fun g b h => by (cases h; exact ⟨by decide, fun v w h => h⟩)
      · exact fun g b h => by (cases h; exact ⟨by decide, fun v w h => h⟩)
      · exact fun g b h => by (cases h; exact ⟨by decide, fun v w h => h⟩)
      · exact fun g b h => by (cases h)
    · exact fun _ _ => keeps_refl wg
    · refine ⟨?_, ?_, ?_, ?_, ?_, ?_, ?_, ?_, ?_, ?_, ?_, ?_, ?_, ?_, ?_, ?_, ?_, ?_, ?_, ?_, ?_, ?_, ?_, ?_, ?_, ?_, ?_, ?_, ?_, ?_, ?_, ?_, ?_, ?_, ?_, trivial⟩
      · intro _ a w1 vs hI ho hn hu K hK
        have e19 : a.tmps[19]? = some (.slice (some ⟨b2, o2, none⟩) m.length q4) := ho 19 rfl
        clear hn ho hu
        go_simp
        exact hK _ _ (keeps_refl _) hI rfl
      · intro _ a w1 vs hI ho hn hu K hK
        obtain ⟨e119, g119⟩ : a.tmps[119]? = some (vs 0) ∧ vs 0 = .slice (some ⟨b2, o2, none⟩) m.length q4 := hn 0 (by decide)
        rw [g119] at e119
        clear g119
        clear hn ho hu
        go_simp
        refine Calls.mono (HMC.out _ hI) ?_
        rintro e w' ⟨rfl, hk2⟩
        go_simp
        exact hK _ _ hk2 (Keeps.trans hI hk2) rfl
      · intro _ a w1 vs hI ho hn hu K hK
        obtain ⟨e120, g120⟩ : a.tmps[120]? = some (vs 1) ∧ vs 1 = .bool true := hn 1 (by decide)
        rw [g120] at e120
        clear g120
        clear hn ho hu
        go_simp
        exact hK _ _ (keeps_refl _) hI rfl
      · intro _ a w1 vs hI ho hn hu K hK
        obtain ⟨e121, g121⟩ : a.tmps[121]? = some (vs 2) ∧ vs 2 = .bool false := hn 2 (by decide)
        rw [g121] at e121
        clear g121
        clear hn ho hu
        go_simp
        exact hK _ _ (keeps_refl _) hI rfl
      · intro _ a w1 vs hI ho hn hu K hK
        have e13 : a.tmps[13]? = some (.slice (some ⟨b1, o1, none⟩) l.length q3) := ho 13 rfl
        clear hn ho hu
        go_simp
        exact hK _ _ (keeps_refl _) hI rfl
      · intro _ a w1 vs hI ho hn hu K hK
        obtain ⟨e123, g123⟩ : a.tmps[123]? = some (vs 4) ∧ vs 4 = .slice (some ⟨b1, o1, none⟩) l.length q3 := hn 4 (by decide)
        rw [g123] at e123
        clear g123
        clear hn ho hu
        go_simp
        exact hK _ _ (keeps_refl _) hI rfl
      · intro _ a w1 vs hI ho hn hu K hK
        have e19 : a.tmps[19]? = some (.slice (some ⟨b2, o2, none⟩) m.length q4) := ho 19 rfl
        clear hn ho hu
        go_simp
        exact hK _ _ (keeps_refl _) hI rfl
      · intro _ a w1 vs hI ho hn hu K hK
        obtain ⟨e125, g125⟩ : a.tmps[125]? = some (vs 6) ∧ vs 6 = .slice (some ⟨b2, o2, none⟩) m.length q4 := hn 6 (by decide)
        rw [g125] at e125
        clear g125
        clear hn ho hu
        go_simp
        exact hK _ _ (keeps_refl _) hI rfl
      · intro _ a w1 vs hI ho hn hu K hK
        obtain ⟨e124, g124⟩ : a.tmps[124]? = some (vs 5) ∧ vs 5 = .int .i64 (l.length : Int) := hn 5 (by decide)
        rw [g124] at e124
        clear g124
        obtain ⟨e126, g126⟩ : a.tmps[126]? = some (vs 7) ∧ vs 7 = .int .i64 (m.length : Int) := hn 7 (by decide)
        rw [g126] at e126
        clear g126
        clear hn ho hu
        have f4 := HW0.out
        go_simp
        exact hK _ _ (keeps_refl _) hI rfl
      · intro _ a w1 vs hI ho hn hu K hK
        obtain ⟨e127, g127⟩ : a.tmps[127]? = some (vs 8) ∧ vs 8 = .int .i64 ((l.length : Int) + (m.length : Int)) := hn 8 (by decide)
        rw [g127] at e127
        clear g127
        clear hn ho hu
        have i1 := HBG.out
        go_simp
        exact hK _ _ (keeps_refl _) hI rfl
      · intro _ a w1 vs hI ho hn hu K hK
        obtain ⟨e122, g122⟩ : a.tmps[122]? = some (vs 3) ∧ vs 3 = .bool false := hn 3 (by decide)
        rw [g122] at e122
        clear g122
        obtain ⟨e128, g128⟩ : a.tmps[128]? = some (vs 9) ∧ vs 9 = .bool false := hn 9 (by decide)
        rw [g128] at e128
        clear g128
        clear hn ho hu
        go_simp
        exact hK _ _ (keeps_refl _) hI rfl
      · intro _ a w1 vs hI ho hn hu K hK
        obtain ⟨e129, g129⟩ : a.tmps[129]? = some (vs 10) ∧ vs 10 = .bool false := hn 10 (by decide)
        rw [g129] at e129
        clear g129
        clear hn ho hu
        go_simp
        exact hK _ _ (keeps_refl _) hI rfl
      · intro _ a w1 vs hI ho hn hu K hK
        have e13 : a.tmps[13]? = some (.slice (some ⟨b1, o1, none⟩) l.length q3) := ho 13 rfl
        clear hn ho hu
        go_simp
        exact hK _ _ (keeps_refl _) hI rfl
      · intro _ a w1 vs hI ho hn hu K hK
        obtain ⟨e131, g131⟩ : a.tmps[131]? = some (vs 12) ∧ vs 12 = .slice (some ⟨b1, o1, none⟩) l.length q3 := hn 12 (by decide)
        rw [g131] at e131
        clear g131
        clear hn ho hu
        go_simp
        exact hK _ _ (keeps_refl _) hI rfl
      · intro _ a w1 vs hI ho hn hu K hK
        obtain ⟨e132, g132⟩ : a.tmps[132]? = some (vs 13) ∧ vs 13 = .int .i64 (l.length : Int) := hn 13 (by decide)
        rw [g132] at e132
        clear g132
        clear hn ho hu
        have i1 := HZ0.out.1.1
        have i2 := HZ0.out.1.2
        have i3 := HZ0.out.2
        go_simp
        exact hK _ _ (keeps_refl _) hI rfl
      · intro _ a w1 vs hI ho hn hu K hK
        obtain ⟨e133, g133⟩ : a.tmps[133]? = some (vs 14) ∧ vs 14 = .bool true := hn 14 (by decide)
        rw [g133] at e133
        clear g133
        clear hn ho hu
        go_simp
        exact hK _ _ (keeps_refl _) hI rfl
      · intro _ a w1 vs hI ho hn hu K hK
        have e19 : a.tmps[19]? = some (.slice (some ⟨b2, o2, none⟩) m.length q4) := ho 19 rfl
        clear hn ho hu
        go_simp
        exact hK _ _ (keeps_refl _) hI rfl
      · intro _ a w1 vs hI ho hn hu K hK
        obtain ⟨e135, g135⟩ : a.tmps[135]? = some (vs 16) ∧ vs 16 = .slice (some ⟨b2, o2, none⟩) m.length q4 := hn 16 (by decide)
        rw [g135] at e135
        clear g135
        clear hn ho hu
        go_simp
        exact hK _ _ (keeps_refl _) hI rfl
      · intro _ a w1 vs hI ho hn hu K hK
        obtain ⟨e136, g136⟩ : a.tmps[136]? = some (vs 17) ∧ vs 17 = .int .i64 (m.length : Int) := hn 17 (by decide)
        rw [g136] at e136
        clear g136
        clear hn ho hu
        have i1 := HZ1.out.1.1
        have i2 := HZ1.out.1.2
        have i3 := HZ1.out.2
        go_simp
        exact hK _ _ (keeps_refl _) hI rfl
      · intro _ a w1 vs hI ho hn hu K hK
        obtain ⟨e134, g134⟩ : a.tmps[134]? = some (vs 15) ∧ vs 15 = .bool true := hn 15 (by decide)
        rw [g134] at e134
        clear g134
        obtain ⟨e137, g137⟩ : a.tmps[137]? = some (vs 18) ∧ vs 18 = .bool true := hn 18 (by decide)
        rw [g137] at e137
        clear g137
        clear hn ho hu
        go_simp
        exact hK _ _ (keeps_refl _) hI rfl
      · intro _ a w1 vs hI ho hn hu K hK
        obtain ⟨e138, g138⟩ : a.tmps[138]? = some (vs 19) ∧ vs 19 = .bool true := hn 19 (by decide)
        rw [g138] at e138
        clear g138
        clear hn ho hu
        go_simp
        exact hK _ _ (keeps_refl _) hI rfl
      · intro _ a w1 vs hI ho hn hu K hK
        have e13 : a.tmps[13]? = some (.slice (some ⟨b1, o1, none⟩) l.length q3) := ho 13 rfl
        clear hn ho hu
        go_simp
        exact hK _ _ (keeps_refl _) hI rfl
      · intro _ a w1 vs hI ho hn hu K hK
        have e13 : a.tmps[13]? = some (.slice (some ⟨b1, o1, none⟩) l.length q3) := ho 13 rfl
        clear hn ho hu
        go_simp
        exact hK _ _ (keeps_refl _) hI rfl
      · intro _ a w1 vs hI ho hn hu K hK
        obtain ⟨e141, g141⟩ : a.tmps[141]? = some (vs 22) ∧ vs 22 = .slice (some ⟨b1, o1, none⟩) l.length q3 := hn 22 (by decide)
        rw [g141] at e141
        clear g141
        clear hn ho hu
        go_simp
        exact hK _ _ (keeps_refl _) hI rfl
      · intro _ a w1 vs hI ho hn hu K hK
        obtain ⟨e142, g142⟩ : a.tmps[142]? = some (vs 23) ∧ vs 23 = .int .i64 (l.length : Int) := hn 23 (by decide)
        rw [g142] at e142
        clear g142
        clear hn ho hu
        have i1 := HW1.out.1
        have i2 := HW1.out.2
        go_simp
        exact hK _ _ (keeps_refl _) hI rfl
      · intro _ a w1 vs hI ho hn hu K hK
        obtain ⟨e140, g140⟩ : a.tmps[140]? = some (vs 21) ∧ vs 21 = .slice (some ⟨b1, o1, none⟩) l.length q3 := hn 21 (by decide)
        rw [g140] at e140
        clear g140
        obtain ⟨e143, g143⟩ : a.tmps[143]? = some (vs 24) ∧ vs 24 = .int .i64 (kp : Int) := hn 24 (by decide)
        rw [g143] at e143
        clear g143
        clear hn ho hu
        have i1 := HW2.out.1
        have i2 := HW2.out.2
        go_simp
        exact hK _ _ (keeps_refl _) hI rfl
      · intro _ a w1 vs hI ho hn hu K hK
        obtain ⟨e144, g144⟩ : a.tmps[144]? = some (vs 25) ∧ vs 25 = .pointer (some ⟨b1, o1 + kp * 4, none⟩) := hn 25 (by decide)
        rw [g144] at e144
        clear g144
        clear hn ho hu
        go_simp
        exact hK _ _ (keeps_refl _) hI rfl
      · intro _ a w1 vs hI ho hn hu K hK
        obtain ⟨e145, g145⟩ : a.tmps[145]? = some (vs 26) ∧ vs 26 = .pointer (some ⟨b1, o1 + kp * 4, none⟩) := hn 26 (by decide)
        rw [g145] at e145
        clear g145
        clear hn ho hu
        have c0 := keeps_cell hI Q0.out
        go_simp
        exact hK _ _ (keeps_refl _) hI rfl
      · intro _ a w1 vs hI ho hn hu K hK
        have e19 : a.tmps[19]? = some (.slice (some ⟨b2, o2, none⟩) m.length q4) := ho 19 rfl
        clear hn ho hu
        go_simp
        exact hK _ _ (keeps_refl _) hI rfl
      · intro _ a w1 vs hI ho hn hu K hK
        obtain ⟨e147, g147⟩ : a.tmps[147]? = some (vs 28) ∧ vs 28 = .slice (some ⟨b2, o2, none⟩) m.length q4 := hn 28 (by decide)
        rw [g147] at e147
        clear g147
        clear hn ho hu
        have i1 := HW3.out
        have i2 := HZ1.out.2
        have i3 := HW4.out
        go_simp
        exact hK _ _ (keeps_refl _) hI rfl
      · intro _ a w1 vs hI ho hn hu K hK
        obtain ⟨e148, g148⟩ : a.tmps[148]? = some (vs 29) ∧ vs 29 = .pointer (some ⟨b2, o2, none⟩) := hn 29 (by decide)
        rw [g148] at e148
        clear g148
        clear hn ho hu
        go_simp
        exact hK _ _ (keeps_refl _) hI rfl
      · intro _ a w1 vs hI ho hn hu K hK
        obtain ⟨e149, g149⟩ : a.tmps[149]? = some (vs 30) ∧ vs 30 = .pointer (some ⟨b2, o2, none⟩) := hn 30 (by decide)
        rw [g149] at e149
        clear g149
        clear hn ho hu
        have c0 := keeps_cell hI Q1.out
        go_simp
        exact hK _ _ (keeps_refl _) hI rfl
      · intro _ a w1 vs hI ho hn hu K hK
        obtain ⟨e146, g146⟩ : a.tmps[146]? = some (vs 27) ∧ vs 27 = .string Pn := hn 27 (by decide)
        rw [g146] at e146
        clear g146
        obtain ⟨e150, g150⟩ : a.tmps[150]? = some (vs 31) ∧ vs 31 = .string Qn := hn 31 (by decide)
        rw [g150] at e150
        clear g150
        clear hn ho hu
        have i1 := HLS.out
        go_simp
        exact hK _ _ (keeps_refl _) hI rfl
      · intro _ a w1 vs hI ho hn hu K hK
        obtain ⟨e139, g139⟩ : a.tmps[139]? = some (vs 20) ∧ vs 20 = .bool true := hn 20 (by decide)
        rw [g139] at e139
        clear g139
        obtain ⟨e151, g151⟩ : a.tmps[151]? = some (vs 32) ∧ vs 32 = .bool false := hn 32 (by decide)
        rw [g151] at e151
        clear g151
        clear hn ho hu
        go_simp
        exact hK _ _ (keeps_refl _) hI rfl
      · intro _ a w1 vs hI ho hn hu K hK
        obtain ⟨e130, g130⟩ : a.tmps[130]? = some (vs 11) ∧ vs 11 = .bool false := hn 11 (by decide)
        rw [g130] at e130
        clear g130
        obtain ⟨e152, g152⟩ : a.tmps[152]? = some (vs 33) ∧ vs 33 = .bool false := hn 33 (by decide)
        rw [g152] at e152
        clear g152
        clear hn ho hu
        go_simp
        exact hK _ _ (keeps_refl _) hI rfl
    · intro vs wE hI hG
      have eL34 : vs 34 = .bool false := hG 34 (by decide)
      have HKE := Lib.hid hI
      clear hG hI
      simp only [setAll, Nat.zero_add, Nat.reduceAdd, List.setIfInBounds_toArray, List.set_cons_zero, List.set_cons_succ, eL34]
      clear eL34
      generalize vs 0 = y0 at *
      generalize vs 1 = y1 at *
      generalize vs 2 = y2 at *
      generalize vs 3 = y3 at *
      generalize vs 4 = y4 at *
      generalize vs 5 = y5 at *
      generalize vs 6 = y6 at *
      generalize vs 7 = y7 at *
      generalize vs 8 = y8 at *
      generalize vs 9 = y9 at *
      generalize vs 10 = y10 at *
      generalize vs 11 = y11 at *
      generalize vs 12 = y12 at *
      generalize vs 13 = y13 at *
      generalize vs 14 = y14 at *
      generalize vs 15 = y15 at *
      generalize vs 16 = y16 at *
      generalize vs 17 = y17 at *
      generalize vs 18 = y18 at *
      generalize vs 19 = y19 at *
      generalize vs 20 = y20 at *
      generalize vs 21 = y21 at *
      generalize vs 22 = y22 at *
      generalize vs 23 = y23 at *
      generalize vs 24 = y24 at *
      generalize vs 25 = y25 at *
      generalize vs 26 = y26 at *
      generalize vs 27 = y27 at *
      generalize vs 28 = y28 at *
      generalize vs 29 = y29 at *
      generalize vs 30 = y30 at *
      generalize vs 31 = y31 at *
      generalize vs 32 = y32 at *
      generalize vs 33 = y33 at *
      have HKW := Lib.hid (HK9.out.trans HKE.out)
      have HA := Lib.hid (EntsAt.keeps H9.out HKE.out)
      have HB := Lib.hid (EntsAt.keeps HN.out HKE.out)
      clear HKE
      obtain ⟨us, hu1, hu2, hu3, hu4, hu5⟩ := ents_cells HA.out
      obtain ⟨vs9, hv1, hv2, hv3, hv4, hv5⟩ := ents_cells HB.out
      have HU2 := Lib.hid hu2
      have HU5 := Lib.hid hu5
      have HV2 := Lib.hid hv2
      have HV4 := Lib.hid hv4
      have HV5 := Lib.hid hv5
      have HOW : Hid (∀ v' w', w'.ownsRow wE.heap.size 33 4 v' (l.length + m.length) (us.flatten ++ vs9.flatten) → Keeps wE w' → EntsAt w'.heap v' (l ++ m)) := fun v' w' ho hk => ents_both hu1 hu3 hv1 hv3 ho rfl hk (by omega)
      clear hu1 hu2 hu3 hu4 hu5 hv1 hv2 hv3 hv4 hv5
      go_wp2_with (at_builtin; first | (refine wpList_plain rfl fun _ hK => oper_freshR elEntG rfl (.tmp 154) (.tmp 155) rfl wE.heap.size wE.heap.size rfl (own_empty0 wE wE.heap.size 33 4 (Nat.le_refl _)) (by simp) _ l.length _ us.flatten rfl HU2.out (fun h0 => let ⟨b, o, e, hc⟩ := HU5.out h0; ⟨b, o, e, fun j hj => keeps_cell (kal _ _) (hc j hj)⟩) (by omega) fun v7 w7 ow7 hk7 => hK _ _ ?_; obtain ⟨pv, qv, rfl⟩ := own_slice9 ow7; have HO7 := Lib.hid ow7; have HK7 := Lib.hid ((kal wE (.cells #[] 33)).trans hk7); clear ow7 hk7) | (refine wpList_plain rfl fun _ hK => oper_recsA elEntG rfl (.tmp 156) (.tmp 157) rfl wE.heap.size _ l.length us.flatten rfl HO7.out _ m.length _ vs9.flatten rfl HV2.out (fun h0 => let ⟨b, o, e, hc⟩ := HV5.out h0; ⟨b, o, e, fun j hj => keeps_cell HK7.out (hc j hj)⟩) HV4.out (by omega) HK7.out.size fun v8 w8 ow8 hc8 => hK _ _ ?_; have HK8 : Hid (Keeps wE w8) := HK7.out.then (chg_kept (B := wE.heap.size) hc8 (fun q _ e => (own_blockK HO7.out q e).1) HK7.out.size) (Nat.le_refl _); have HE8 := Lib.hid (HOW.out _ _ ow8 HK8.out); clear ow8 hc8))
      refine Calls.mono (nmay_any _ (l ++ m) _ HE8.out) ?_
      rintro e w9 ⟨rfl, hk9⟩
      have HK9 := Lib.hid (HKW.out.trans (HK8.out.trans hk9))
      rw [HJ.out]
      clear hk9
      go_wp2_with fail
      go_ret
      exact ⟨rfl, HK9.out⟩
end Go.Proofs.YtdpfanifagfciaaDoor
