/- The walk of the reference's Read of a directory. -/
import Derived.Test.YtdpfanifagfciaaDoorNodeP
import Derived.Test.YtdpfanifagfciaaDoorNodeC
import Derived.Test.YtdpfanifagfciaaDoorStageG
import Derived.Deep.DeepCutAuto
namespace Go.Proofs.YtdpfanifagfciaaDoor
open Go.RowKit
attribute [local go_sem ↓] Go.wp_at_zero Go.wp_at_succ
/- By places. -/
theorem tk_drop {S : List UInt8} {p m : Nat} (h : p + m ≤ S.length) : tkB m (S.drop p) = (S.drop p).take m ∧ drB m (S.drop p) = S.drop (p + m) ∧ ∀ b, badB m (S.drop p) b = b := by
  have hl : m ≤ (S.drop p).length := by rw [List.length_drop]; omega
  exact ⟨by unfold tkB; rw [if_pos hl], by unfold drB; rw [if_pos hl, List.drop_drop], fun b => by unfold badB; rw [decide_eq_true hl]; simp⟩
theorem tk_short {S : List UInt8} {p m : Nat} (h : S.length < p + m) (hp : p ≤ S.length) : ∀ b, badB m (S.drop p) b = true := fun b => by
  have hl : ¬ m ≤ (S.drop p).length := by rw [List.length_drop]; omega
  unfold badB; rw [decide_eq_false hl]; simp
theorem byT_drop {S : List UInt8} {p : Nat} (h : p < S.length) : S.drop p = S[p] :: S.drop (p + 1) ∧ byT S p = S[p].toNat := ⟨List.drop_eq_getElem_cons h, byT_at h⟩
theorem beN_at1 {S : List UInt8} {p : Nat} (h : p + 1 ≤ S.length) : beN (tkB 1 (S.drop p)) = byT S p := by
  rw [(tk_drop h).1, (byT_drop (by omega : p < S.length)).1, (byT_drop (by omega : p < S.length)).2]
  simp only [beN, List.take_succ_cons, List.take_zero, List.foldl_cons, List.foldl_nil]; omega
theorem beN_at2 {S : List UInt8} {p : Nat} (h : p + 2 ≤ S.length) : beN (tkB 2 (S.drop p)) = byT S p * 256 + byT S (p + 1) := by
  have a := byT_drop (show p < S.length by omega)
  have b := byT_drop (show p + 1 < S.length by omega)
  rw [(tk_drop h).1, a.1, b.1, a.2, b.2]
  simp only [beN, List.take_succ_cons, List.take_zero, List.foldl_cons, List.foldl_nil]; omega
theorem beN_at4 {S : List UInt8} {p : Nat} (h : p + 4 ≤ S.length) : beN (tkB 4 (S.drop p)) = byT S p * 16777216 + byT S (p + 1) * 65536 + byT S (p + 2) * 256 + byT S (p + 3) := by
  have a := byT_drop (show p < S.length by omega)
  have b := byT_drop (show p + 1 < S.length by omega)
  have c := byT_drop (show p + 2 < S.length by omega)
  have d := byT_drop (show p + 3 < S.length by omega)
  rw [(tk_drop h).1, a.1, b.1, c.1, d.1, a.2, b.2, c.2, d.2]
  simp only [beN, List.take_succ_cons, List.take_zero, List.foldl_cons, List.foldl_nil]; omega
theorem byT_lt (S : List UInt8) (p : Nat) : byT S p < 256 := by unfold byT; exact UInt8.toNat_lt _
theorem enS_at {S : List UInt8} {p κ nn z m : Nat} (h2 : p + 2 ≤ S.length) (hκ : byT S p = κ) (hn : byT S (p + 1) = nn) (h6 : p + 2 + nn + 6 ≤ S.length) (hz : byT S (p + 2 + nn) * 16777216 + byT S (p + 2 + nn + 1) * 65536 + byT S (p + 2 + nn + 2) * 256 + byT S (p + 2 + nn + 3) = z) (hm : byT S (p + 2 + nn + 4) * 256 + byT S (p + 2 + nn + 5) = m) :
    enS (S.drop p) false = (⟨strB ((S.drop (p + 2)).take nn), decide (κ = 1), (z : Int), (chS m [] (S.drop (p + 2 + nn + 6)) (decide (1 < κ))).1⟩, (chS m [] (S.drop (p + 2 + nn + 6)) (decide (1 < κ))).2.1, (chS m [] (S.drop (p + 2 + nn + 6)) (decide (1 < κ))).2.2) := by
  obtain ⟨a1, a2, a3⟩ := tk_drop (S := S) (p := p) (m := 1) (by omega)
  obtain ⟨b1, b2, b3⟩ := tk_drop (S := S) (p := p + 1) (m := 1) (by omega)
  obtain ⟨c1, c2, c3⟩ := tk_drop (S := S) (p := p + 2) (m := nn) (by omega)
  obtain ⟨d1, d2, d3⟩ := tk_drop (S := S) (p := p + 2 + nn) (m := 4) (by omega)
  obtain ⟨e1, e2, e3⟩ := tk_drop (S := S) (p := p + 2 + nn + 4) (m := 2) (by omega)
  have q1 := beN_at1 (S := S) (p := p) (by omega)
  have q2 := beN_at1 (S := S) (p := p + 1) (by omega)
  have q4 := beN_at4 (S := S) (p := p + 2 + nn) (by omega)
  have q5 := beN_at2 (S := S) (p := p + 2 + nn + 4) (by omega)
  rw [hκ] at q1
  rw [hn] at q2
  rw [hz] at q4
  rw [show p + 2 + nn + 4 + 1 = p + 2 + nn + 5 from rfl, hm] at q5
  have f2 : p + 1 + 1 = p + 2 := rfl
  have f6 : p + 2 + nn + 4 + 2 = p + 2 + nn + 6 := rfl
  rw [f2] at b2
  rw [f6] at e2
  unfold enS
  simp only [q1, a2, a3, q2, b2, b3, c1, c2, c3, q4, d2, d3, q5, e2, e3, Bool.false_or]
theorem enS_no2 {S : List UInt8} {p : Nat} (hp : p ≤ S.length) (h : S.length < p + 2) : (enS (S.drop p) false).2.2 = true := by
  have bt : ∀ (m : Nat) (r : List UInt8), badB m r true = true := fun m r => rfl
  unfold enS
  rcases Nat.lt_or_ge S.length (p + 1) with h1 | h1
  · simp only [tk_short h1 hp, Bool.true_or, bt, chS_bad]
  · have h2 := tk_short (S := S) (p := p + 1) (m := 1) h (by omega)
    obtain ⟨_, a2, a3⟩ := tk_drop (S := S) (p := p) (m := 1) h1
    simp only [a2, h2, bt, chS_bad]
theorem enS_no6 {S : List UInt8} {p nn : Nat} (h2 : p + 2 ≤ S.length) (hn : byT S (p + 1) = nn) (h : S.length < p + 2 + nn + 6) : (enS (S.drop p) false).2.2 = true := by
  have bt : ∀ (m : Nat) (r : List UInt8), badB m r true = true := fun m r => rfl
  obtain ⟨_, a2, _⟩ := tk_drop (S := S) (p := p) (m := 1) (by omega)
  obtain ⟨_, b2, _⟩ := tk_drop (S := S) (p := p + 1) (m := 1) (by omega)
  have q2 := beN_at1 (S := S) (p := p + 1) (by omega)
  rw [hn] at q2
  have f2 : p + 1 + 1 = p + 2 := rfl
  rw [f2] at b2
  unfold enS
  simp only [a2, q2, b2]
  rcases Nat.lt_or_ge S.length (p + 2 + nn) with h3 | h3
  · simp only [tk_short h3 h2, bt, chS_bad]
  · obtain ⟨_, c2, c3⟩ := tk_drop h3
    simp only [c2]
    rcases Nat.lt_or_ge S.length (p + 2 + nn + 4) with h4 | h4
    · simp only [tk_short h4 h3, bt, chS_bad]
    · obtain ⟨_, d2, d3⟩ := tk_drop h4
      have h5 := tk_short (S := S) (p := p + 2 + nn + 4) (m := 2) (by omega) h4
      simp only [d2, h5, chS_bad]
theorem elS_nxR (m : Nat) (acc : List EntR) (r : List UInt8) : elS (m + 1) acc r false = elS m (acc ++ [(enS r false).1]) (enS r false).2.1 (enS r false).2.2 := by rw [elS]; simp
theorem chS_nx (m : Nat) (acc : List ByteArray) (r : List UInt8) : chS (m + 1) acc r false = chS m (acc ++ [strB (tkB 32 r)]) (drB 32 r) (badB 32 r false) := by rw [chS]; simp
theorem chS_no {S : List UInt8} : ∀ (m p : Nat) (c : List ByteArray) (b : Bool), p ≤ S.length → S.length < p + 32 * m → (chS m c (S.drop p) b).2.2 = true
  | 0, p, c, b, h1, h2 => by omega
  | m + 1, p, c, true, _, _ => chS_bad _ _ _
  | m + 1, p, c, false, h1, h2 => by
    rw [chS_nx]
    rcases Nat.lt_or_ge S.length (p + 32) with h3 | h3
    · rw [tk_short h3 h1]; exact chS_bad _ _ _
    · obtain ⟨_, a2, _⟩ := tk_drop h3
      rw [a2]
      exact chS_no m (p + 32) _ _ h3 (by omega)
/-- What is read of a directory's bytes is what the parse gives. -/
theorem readP_parse {S : List UInt8} {l : List EntR} (h : readP S = some l) (h6 : 6 ≤ S.length) : elS (byT S 4 * 256 + byT S 5) [] (S.drop 6) false = (l, [], false) := by
  obtain ⟨hm, hl, rfl⟩ := readP_some.1 h
  have h256 := (mayL_all hm).1
  have e : makeB l = [100, 105, 114, 49] ++ (numB l.length 2 ++ ((l.map entB).flatten ++ [])) := by unfold makeB makeTo; rw [List.take_length]; simp
  have e4 : (makeB l).drop 4 = numB l.length 2 ++ ((l.map entB).flatten ++ []) := by rw [e]; rfl
  have e6 : (makeB l).drop 6 = (l.map entB).flatten ++ [] := by
    have : (makeB l).drop 6 = ((makeB l).drop 4).drop 2 := by rw [List.drop_drop]
    rw [this, e4]
    exact (congrArg (fun k => List.drop k (numB l.length 2 ++ ((l.map entB).flatten ++ []))) (numB_length l.length 2).symm).trans List.drop_left
  have hq := beN_at2 (S := makeB l) (p := 4) (by omega)
  rw [e4, (tk_app (m := 2) (numB_length _ _)).1, beN_numB2 (by omega)] at hq
  rw [← hq, e6, elS_of l [] [] fun x hx => mayE_raw (mayL_mem hm hx)]
  simp
set_option maxRecDepth 100000
theorem w64r (a : Int) (h : -9223372036854775808 ≤ a ∧ a ≤ 9223372036854775807) : wrap64 a = a := by unfold wrap64; omega
theorem run_byTZ (s : ByteArray) (i : Nat) (z : Int) (hz : z = (i : Int)) (h : i < s.size) : ∀ w : World, (Instr.index 9 (.string s) (.int .i64 z)).run Tryd.prog w = .ok (.int .u8 (byT s.data.toList i : Int)) w := fun w => by subst hz; exact run_byT s i h w
theorem str_midR (x : ByteArray) (i j : Nat) (zi zj : Int) (hi : zi = (i : Int)) (hj2 : zj = (j : Int)) (h : i ≤ j) (hj : j ≤ x.size) : ∀ wx : World, (Instr.slice 9 (.string x) (some (.int .i64 zi)) (some (.int .i64 zj)) none).run Tryd.prog wx = .ok (.string (strB ((x.data.toList.drop i).take (j - i)))) wx := fun wx => by
  subst hi hj2
  rw [run_slice_string_if _ _ _ _ _ _ _ rfl, if_pos (by omega), if_pos (by omega), ext_both]; rfl
theorem wr32 {q : Nat} (h : q ≤ 1000000) : IntKind.i64.wrap ((q : Int) + 32) = (q : Int) + 32 ∧ wrap64 ((q : Int) + 32) = (q : Int) + 32 := ⟨IntWalk.i64_in _ (by omega), w64r _ (by omega)⟩
def entAR (nm : ByteArray) (d : Bool) (z : Int) (cv : Value) : Array Value := #[.string nm, .bool d, .int .i64 z, cv]
/-- The state while an entry is read: it lies in the first block behind the world at the round's start; nothing that was there has turned. -/
structure InR (wk w : World) (nm : ByteArray) (d : Bool) (z : Int) (cv : Value) : Prop where
  kp : Keeps wk w
  xb : BlkAt w wk.heap.size 40 (entAR nm d z cv)
section
variable {wk w w' : World} {nm : ByteArray} {d : Bool} {z : Int} {cv : Value}
theorem inr_new (wk : World) (nm : ByteArray) (d : Bool) (z : Int) (cv : Value) : InR wk (wk.alloc (.cells #[.string nm, .bool d, .int .i64 z, cv] 40)) nm d z cv := ⟨kal _ _, BlkAt.new _ _ _⟩
theorem InR.lt (x : InR wk w nm d z cv) : wk.heap.size < w.heap.size := x.xb.lt
theorem InR.keeps (x : InR wk w nm d z cv) (k : Keeps w w') : InR wk w' nm d z cv := ⟨x.kp.trans k, x.xb.keeps k⟩
theorem InR.setF (x : InR wk w nm d z cv) (i : Nat) (v : Value) {nm' : ByteArray} {d' : Bool} {z' : Int} {cv' : Value} (he : (entAR nm d z cv).setIfInBounds i v = entAR nm' d' z' cv') : InR wk (w.setCell ⟨wk.heap.size, i, none⟩ v) nm' d' z' cv' :=
  ⟨((Kept.any (T := fun k => k = wk.heap.size) x.kp).trans (chg_set w wk.heap.size i v)).keeps fun k h1 h2 => by omega, by rw [← he]; exact x.xb.set i v⟩
theorem InR.grow {ob : Option Nat} (x : InR wk w nm d z cv) (c : Chg (fun k => ob = some k) w w') (ho : ∀ k, ob = some k → wk.heap.size ≤ k ∧ typH w.heap k = some 9) : InR wk w' nm d z cv := by
  refine ⟨((Kept.any (T := fun k => ob = some k) x.kp).trans c).keeps fun k h1 h2 => ?_, x.xb.chg c fun e => ?_⟩
  · have := (ho k h2).1; omega
  · have := (ho _ e).2
    rw [x.xb.typ] at this; exact absurd this (by decide)
abbrev ChR (wk w : World) (cv : Value) (c : List ByteArray) : Prop := OwnSeq wk.heap.size 9 IsText w cv c
theorem ChR.keeps {c : List ByteArray} (s : ChR wk w cv c) (h : Keeps w w') : ChR wk w' cv c := OwnSeq.chg (T := fun _ => False) s (Kept.any h) (fun _ _ x => x) fun _ _ _ x => x
theorem ChR.setF {c : List ByteArray} {cv' : Value} (s : ChR wk w cv' c) (x : InR wk w nm d z cv) (i : Nat) (v : Value) : ChR wk (w.setCell ⟨wk.heap.size, i, none⟩ v) cv' c := by
  obtain ⟨us, h1, h2, h3⟩ := s
  exact ⟨us, owns_chg h1 (chg_set w wk.heap.size i v) fun k hk e => by
    have := (own_block h1 k hk).2.2
    rw [e, x.xb.typ] at this; exact absurd this (by decide), h2, h3⟩
end
abbrev OutR (w0 w : World) (v : Value) (l : List EntR) : Prop := OwnRec w0.heap.size 40 4 (IsEntT (w0.heap.size ≤ ·) w.heap) w v l
theorem outr_push {w0 w w1 w' : World} {m : Nat} {v v' : Value} {us : List (List Value)} {l : List EntR} {nm : ByteArray} {d : Bool} {z : Int} {pc : Option Addr} {qc : Nat} {c : List ByteArray}
    (h1 : us.length = l.length) (h2 : ∀ i (h : i < us.length) (h' : i < l.length), us[i].length = 4 ∧ IsEntT (w0.heap.size ≤ ·) w.heap us[i] l[i]) (hu : w.ownsRow w0.heap.size 40 4 v m us.flatten) (k : Keeps w w1)
    (hown : w'.ownsRow w0.heap.size 40 4 v' (us.length + 1) (us.flatten ++ [.string nm, .bool d, .int .i64 z, .slice pc c.length qc])) (hc : Chg (fun q => v.ownBlock = some q) w1 w') (hs : SeqIn (w0.heap.size ≤ ·) 9 IsText w.heap (.slice pc c.length qc) c) (hq : c.length ≤ qc) : OutR w0 w' v' (l ++ [⟨nm, d, z, c⟩]) := by
  have cc : Chg (fun q => v.ownBlock = some q) w w' := (Kept.any k).trans hc
  exact OwnRec.push (R := IsEntT (w0.heap.size ≤ ·) w.heap) h1 h2 hown (fun a b _ x => IsEntT.chg x cc fun b _ _ ht => own_typeT hu ht (by decide)) rfl (IsEntT.chg ⟨_, rfl, hs, fun _ _ _ e => by cases e; exact hq⟩ cc fun b _ _ ht => own_typeT hu ht (by decide))
theorem keeps_own {w0 w w1 w' : World} {n : Nat} {v : Value} {us : List Value} (h0 : Keeps w0 w) (k : Keeps w w1) (hu : w.ownsRow w0.heap.size 40 4 v n us) (c : Chg (fun q => v.ownBlock = some q) w1 w') : Keeps w0 w' :=
  ((Kept.any (T := fun q => v.ownBlock = some q) (h0.trans k)).trans c).keeps fun q h1 h2 => by have := (own_blockK hu q h2).1; omega
def SmallE (l : List EntR) : Prop := ∀ x ∈ l, x.c.length ≤ 1000000 ∧ x.n.size ≤ 1000000
theorem SmallE.push {l : List EntR} {x : EntR} (h : SmallE l) (h1 : x.c.length ≤ 1000000) (h2 : x.n.size ≤ 1000000) : SmallE (l ++ [x]) := fun y hy => by
  rcases List.mem_append.1 hy with hy | hy
  · exact h y hy
  · rw [List.mem_singleton.1 hy]; exact ⟨h1, h2⟩
/-- What the reference's Read tells. -/
def RReadR (s : List UInt8) (w w' : World) (e : Ending) : Prop :=
  Keeps w w' ∧ ((readP s = none ∧ e = .returned (.tuple #[.slice none 0 0, .int .i64 4])) ∨ ∃ l v, readP s = some l ∧ e = .returned (.tuple #[v, .int .i64 0]) ∧ EntsAt w'.heap v l)
structure Nums16 (te z y0 y1 y2 y3 : Nat) : Prop where
  a0 : IntKind.i64.wrap ((te : Int) + 1) = (te : Int) + 1
  b0 : wrap64 ((te : Int) + 1) = (te : Int) + 1
  a1 : IntKind.i64.wrap ((te : Int) + 2) = (te : Int) + 2
  b1 : wrap64 ((te : Int) + 2) = (te : Int) + 2
  a2 : IntKind.i64.wrap ((te : Int) + 3) = (te : Int) + 3
  b2 : wrap64 ((te : Int) + 3) = (te : Int) + 3
  a3 : IntKind.i64.wrap ((y0 : Int)) = (y0 : Int)
  b3 : wrap64 ((y0 : Int)) = (y0 : Int)
  a4 : IntKind.i64.wrap ((y1 : Int)) = (y1 : Int)
  b4 : wrap64 ((y1 : Int)) = (y1 : Int)
  a5 : IntKind.i64.wrap ((y2 : Int)) = (y2 : Int)
  b5 : wrap64 ((y2 : Int)) = (y2 : Int)
  a6 : IntKind.i64.wrap ((y3 : Int)) = (y3 : Int)
  b6 : wrap64 ((y3 : Int)) = (y3 : Int)
  a7 : IntKind.i64.wrap ((y0 : Int) * 16777216) = (y0 : Int) * 16777216
  b7 : wrap64 ((y0 : Int) * 16777216) = (y0 : Int) * 16777216
  a8 : IntKind.i64.wrap ((y1 : Int) * 65536) = (y1 : Int) * 65536
  b8 : wrap64 ((y1 : Int) * 65536) = (y1 : Int) * 65536
  a9 : IntKind.i64.wrap ((y2 : Int) * 256) = (y2 : Int) * 256
  b9 : wrap64 ((y2 : Int) * 256) = (y2 : Int) * 256
  a10 : IntKind.i64.wrap ((y0 : Int) * 16777216 + (y1 : Int) * 65536) = (y0 : Int) * 16777216 + (y1 : Int) * 65536
  b10 : wrap64 ((y0 : Int) * 16777216 + (y1 : Int) * 65536) = (y0 : Int) * 16777216 + (y1 : Int) * 65536
  a11 : IntKind.i64.wrap ((y0 : Int) * 16777216 + (y1 : Int) * 65536 + (y2 : Int) * 256) = (y0 : Int) * 16777216 + (y1 : Int) * 65536 + (y2 : Int) * 256
  b11 : wrap64 ((y0 : Int) * 16777216 + (y1 : Int) * 65536 + (y2 : Int) * 256) = (y0 : Int) * 16777216 + (y1 : Int) * 65536 + (y2 : Int) * 256
  a12 : IntKind.i64.wrap ((z : Int)) = (z : Int)
  b12 : wrap64 ((z : Int)) = (z : Int)
theorem nums16 {te z y0 y1 y2 y3 : Nat} (h : y0 < 256 ∧ y1 < 256 ∧ y2 < 256 ∧ y3 < 256 ∧ te ≤ 16384) (hz : y0 * 16777216 + y1 * 65536 + y2 * 256 + y3 = z) : Nums16 te z y0 y1 y2 y3 :=
  ⟨IntWalk.i64_in _ (by omega), w64r _ (by omega), IntWalk.i64_in _ (by omega), w64r _ (by omega), IntWalk.i64_in _ (by omega), w64r _ (by omega), IntWalk.i64_in _ (by omega), w64r _ (by omega), IntWalk.i64_in _ (by omega), w64r _ (by omega), IntWalk.i64_in _ (by omega), w64r _ (by omega), IntWalk.i64_in _ (by omega), w64r _ (by omega), IntWalk.i64_in _ (by omega), w64r _ (by omega), IntWalk.i64_in _ (by omega), w64r _ (by omega), IntWalk.i64_in _ (by omega), w64r _ (by omega), IntWalk.i64_in _ (by omega), w64r _ (by omega), IntWalk.i64_in _ (by omega), w64r _ (by omega), IntWalk.i64_in _ (by omega), w64r _ (by omega)⟩
def rrA (wk : World) (nm : ByteArray) (dd : Bool) (z : Int) : Nat → World → Prop
  | 0, w => InR wk w nm dd 0 (.slice none 0 0)
  | _, w => InR wk w nm dd z (.slice none 0 0)
def rrAP (GG te z y0 y1 y2 y3 : Nat) (s : ByteArray) : Nat → Value → Prop
  | i, v => v = ([.string s, .int .i64 (te : Int), .int .u8 (y0 : Int), .int .i64 (y0 : Int), .int .i64 ((y0 : Int) * 16777216), .string s, .int .i64 (te : Int), .int .i64 ((te : Int) + 1), .int .u8 (y1 : Int), .int .i64 (y1 : Int), .int .i64 ((y1 : Int) * 65536), .int .i64 ((y0 : Int) * 16777216 + (y1 : Int) * 65536), .string s, .int .i64 (te : Int), .int .i64 ((te : Int) + 2), .int .u8 (y2 : Int), .int .i64 (y2 : Int), .int .i64 ((y2 : Int) * 256), .int .i64 ((y0 : Int) * 16777216 + (y1 : Int) * 65536 + (y2 : Int) * 256), .string s, .int .i64 (te : Int), .int .i64 ((te : Int) + 3), .int .u8 (y3 : Int), .int .i64 (y3 : Int), .int .i64 (z : Int), .pointer (some ⟨GG, 2, none⟩), undef] : List Value).getD i undef
def rrB (wk : World) (N0 NC q : Nat) (S : List UInt8) (nm : ByteArray) (dd : Bool) (z : Int) (pc : Option Addr) (qc : Nat) (c : List ByteArray) : Nat → (Nat → Value) → World → Prop
  | 0, _, w => InR wk w nm dd z (.slice pc NC qc) ∧ ChR wk w (.slice pc NC qc) c ∧ N0 ≤ w.heap.size
  | 1, vs, w => InR wk w nm dd z (.slice pc NC qc) ∧ ChR wk w (vs 8) (c ++ [(strB ((S.drop q).take 32))])
  | _, vs, w => InR wk w nm dd z (vs 8) ∧ ChR wk w (vs 8) (c ++ [(strB ((S.drop q).take 32))])
theorem rrB_upd {wk : World} {N0 NC q : Nat} {S : List UInt8} {nm : ByteArray} {dd : Bool} {z : Int} {pc : Option Addr} {qc : Nat} {c : List ByteArray} {s i : Nat} {vs : Nat → Value} {v : Value} {w : World} (h : rrB wk N0 NC q S nm dd z pc qc c s vs w) (hi : 8 ≠ i) : rrB wk N0 NC q S nm dd z pc qc c s (upd vs i v) w :=
  match s, h with
  | 0, h => h
  | 1, h => ⟨h.1, by rw [upd_other _ _ hi]; exact h.2⟩
  | _ + 2, h => by
    obtain ⟨h1, h2⟩ := h
    refine ⟨?_, ?_⟩ <;> rw [upd_other _ _ hi] <;> assumption
def rrBP (GG N0 NC q : Nat) (S : List UInt8) (s : ByteArray) (pc : Option Addr) (qc : Nat) : Nat → Value → World → Prop
  | 7, v, w => ∃ g, v = .slice (some ⟨g, 0, none⟩) 1 1 ∧ N0 ≤ g ∧ BlkAt w g 9 #[.string (strB ((S.drop q).take 32))]
  | 8, v, _ => ∃ p q, v = .slice p (NC + 1) q
  | i, v, _ => v = ([.pointer (some ⟨GG, 3, none⟩), .slice pc NC qc, .string s, .int .i64 (q : Int), .int .i64 (q : Int), .int .i64 ((q : Int) + 32), .string (strB ((S.drop q).take 32)), undef, undef, .pointer (some ⟨GG, 3, none⟩), undef] : List Value).getD i undef
theorem rrBP_chg {GG N0 NC q : Nat} {S : List UInt8} {s : ByteArray} {pc : Option Addr} {qc : Nat} (i : Nat) (v : Value) (w w' : World) (c : Chg (fun b => b < N0) w w') (h : rrBP GG N0 NC q S s pc qc i v w) : rrBP GG N0 NC q S s pc qc i v w' := by
  match i, h with
  | 0, h => exact h
  | 1, h => exact h
  | 2, h => exact h
  | 3, h => exact h
  | 4, h => exact h
  | 5, h => exact h
  | 6, h => exact h
  | 7, h => exact (let ⟨g, e, hq, hb⟩ := h; ⟨g, e, hq, hb.chg c fun x => Nat.not_lt.2 hq x⟩)
  | 8, h => exact h
  | 9, h => exact h
  | 10, h => exact h
  | _ + 11, h => exact h
set_option maxRecDepth 100000 in
set_option maxHeartbeats 8000000 in
theorem rread19_any (s : ByteArray) (w : World) (hs : s.size ≤ 1000000) : Calls Tryd.prog 14 #[.string s] w fun e w' => RReadR s.data.toList w w' e := by
  have HSL : Hid (s.data.toList.length = s.size) := data_size s
  by_cases h6 : s.size < 6
  · have HN : Hid (readP s.data.toList = none) := by
      show _ = _
      cases hr : readP s.data.toList with
      | none => rfl
      | some l =>
        obtain ⟨a, _, b⟩ := readP_some.1 hr
        have := congrArg List.length b
        rw [HSL.out] at this
        unfold makeB makeTo at this
        simp [numB_length] at this
        omega
    have g1 : decide ((s.size : Int) < 6) = true := decide_eq_true (by omega)
    go_enter Tryd.func14, Tryd.ntmps14
    go_wp2_with fail
    go_ret2
    exact ⟨keeps_refl _, .inl ⟨HN.out, rfl⟩⟩
  by_cases hbig : 16384 < s.size
  · have HN : Hid (readP s.data.toList = none) := by
      show _ = _
      cases hr : readP s.data.toList with
      | none => rfl
      | some l =>
        obtain ⟨_, a, _⟩ := readP_some.1 hr
        rw [HSL.out] at a
        omega
    have g1 : decide ((s.size : Int) < 6) = false := decide_eq_false (by omega)
    have g2 : decide ((16384 : Int) < (s.size : Int)) = true := decide_eq_true (by omega)
    go_enter Tryd.func14, Tryd.ntmps14
    go_wp2_with fail
    go_ret2
    exact ⟨keeps_refl _, .inl ⟨HN.out, rfl⟩⟩
  have g1 : decide ((s.size : Int) < 6) = false := decide_eq_false (by omega)
  have g2 : decide ((16384 : Int) < (s.size : Int)) = false := decide_eq_false (by omega)
  have hsz : s.size ≤ 16384 := by omega
  have hs6 : 6 ≤ s.size := by omega
  obtain ⟨S, hS⟩ : ∃ S, s.data.toList = S := ⟨_, rfl⟩
  have RB : Hid (∀ (i : Nat) (z : Int), z = (i : Int) → i < s.size → ∀ w : World, (Instr.index 9 (.string s) (.int .i64 z)).run Tryd.prog w = .ok (.int .u8 (byT S i : Int)) w) := fun i z hz h => by rw [← hS]; exact run_byTZ s i z hz h
  have RS : Hid (∀ (i j : Nat) (zi zj : Int), zi = (i : Int) → zj = (j : Int) → i ≤ j → j ≤ s.size → ∀ wx : World, (Instr.slice 9 (.string s) (some (.int .i64 zi)) (some (.int .i64 zj)) none).run Tryd.prog wx = .ok (.string (strB ((S.drop i).take (j - i)))) wx) := fun i j zi zj a b c d => by rw [← hS]; exact str_midR s i j zi zj a b c d
  have HSD : Hid (strB S = s) := by show _ = _; rw [← hS, strB_data]
  rw [hS] at HSL ⊢
  have HSS := Lib.hid hS
  obtain ⟨N, hN⟩ : ∃ N, byT S 4 * 256 + byT S 5 = N := ⟨_, rfl⟩
  have hb4 := byT_lt S 4
  have hb5 := byT_lt S 5
  have r4 := RB.out 4 4 rfl (by omega)
  have r5 := RB.out 5 5 rfl (by omega)
  have HV : Hid ((byT S 4 : Int) * 256 + (byT S 5 : Int) = (N : Int)) := by show _ = _; rw [← hN]; omega
  have hN6 : N < 65536 := by omega
  obtain ⟨FN, hFN⟩ : ∃ F, elS N [] (S.drop 6) false = F := ⟨_, rfl⟩
  have HFR : Hid (∀ l, readP S = some l → FN = (l, [], false)) := fun l hl => by
    have := readP_parse hl (by rw [HSL.out]; exact hs6)
    rw [hN, hFN] at this
    exact this
  have HFN := Lib.hid hFN
  clear hN hFN hS h6 hbig
  go_enter Tryd.func14, Tryd.ntmps14
  go_wp2_with fail
  go_quiet (fail)
  rw [HV.out]
  clear r4 r5 HV g1 g2 hb4 hb5
  go_wp2_with fail
  go_loopw [4, 5, 6] (fun vo va vn wr => ∃ (n p : Nat) (acc : List EntR), n ≤ N ∧ vn = .int .i64 n ∧ va = .int .i64 p ∧ p ≤ s.size ∧ acc.length + n ≤ N ∧ Hid (FN.2.2 = false → elS n acc (S.drop p) false = FN) ∧ Hid (Keeps w wr) ∧ Hid (OutR w wr vo acc) ∧ Hid (SmallE acc)) (fun _ _ vn _ => (intOf vn).toNat)
  case atStart => exact ⟨N, 6, [], by omega, rfl, rfl, hs6, by simp, fun _ => HFN.out, keeps_refl _, OwnRec.nil _ _ _ _ _, fun x hx => absurd hx (by simp)⟩
  case round =>
    obtain ⟨n, p, acc, hn, rfl, rfl, hps, hal, HE, HKr, HOr, HSE⟩ := hrel
    obtain ⟨wk, rfl⟩ : ∃ wy : World, wy = wr := ⟨_, rfl⟩
    clear HFN
    by_cases h0 : 0 < n
    · obtain ⟨n', hn'⟩ : ∃ m : Nat, n = m + 1 := ⟨n - 1, by omega⟩
      have HN1 : Hid ((n : Int) - 1 = (n' : Int)) := by show _ = _; omega
      have hal2 : acc.length + 1 + n' ≤ N := by omega
      have HBAD : Hid ((enS (S.drop p) false).2.2 = true → readP S = none) := fun hb => by
        cases hr : readP S with
        | none => rfl
        | some l =>
          have f := HFR.out l hr
          have e := HE.out (by rw [f])
          rw [hn', elS_nxR, hb, f] at e
          have := elS_bad n' (acc ++ [(enS (S.drop p) false).1]) (enS (S.drop p) false).2.1
          rw [e] at this; cases this
      have HNX : Hid (∀ x r', (enS (S.drop p) false = (x, r', false) ∨ (enS (S.drop p) false).2.2 = true) → FN.2.2 = false → elS n' (acc ++ [x]) r' false = FN) := fun x r' hx hf => by
        have e := HE.out hf
        rw [hn', elS_nxR] at e
        rcases hx with hx | hx
        · rw [hx] at e; exact e
        · rw [hx] at e
          have := elS_bad n' (acc ++ [(enS (S.drop p) false).1]) (enS (S.drop p) false).2.1
          rw [e, hf] at this; cases this
      have i0 : (0 : Int) < (n : Int) := by omega
      have i1 : decide ((0 : Int) < (n : Int)) = true := decide_eq_true i0
      have hn6 : n ≤ 65536 := by omega
      clear hn'
      by_cases h2 : s.size < p + 2
      · have HN := Lib.hid (HBAD.out (enS_no2 (by rw [HSL.out]; exact hps) (by rw [HSL.out]; exact h2)))
        have i2 : (s.size : Int) < (p : Int) + 2 := by omega
        have i3 : decide ((s.size : Int) < (p : Int) + 2) = true := decide_eq_true i2
        go_wp2_with fail
        go_ret2
        exact ⟨HKr.out, .inl ⟨HN.out, rfl⟩⟩
      have i2 : ¬ ((s.size : Int) < (p : Int) + 2) := by omega
      have i3 : decide ((s.size : Int) < (p : Int) + 2) = false := decide_eq_false i2
      have hp0 : (0 : Int) ≤ (p : Int) := by omega
      have rp := RB.out p p rfl (by omega)
      have rq := RB.out (p + 1) ((p : Int) + 1) (by omega) (by omega)
      obtain ⟨κ, hκ⟩ : ∃ κ, byT S p = κ := ⟨_, rfl⟩
      obtain ⟨nn, hnn⟩ : ∃ nn, byT S (p + 1) = nn := ⟨_, rfl⟩
      have hn8 : nn < 256 := by rw [← hnn]; exact byT_lt S _
      rw [hκ] at rp
      rw [hnn] at rq
      obtain ⟨dd, hdd⟩ : ∃ d, decide (κ = 1) = d := ⟨_, rfl⟩
      have i4 : decide ((κ : Int) = 1) = dd := by rw [← hdd]; exact decide_eq_decide.2 (by omega)
      have i5 : ((κ : Int) == 1) = dd := by rw [← i4]; rfl
      have HKA := Lib.hid hκ
      have HNN := Lib.hid hnn
      have HDD := Lib.hid hdd
      clear hκ hnn hdd
      by_cases h8 : s.size < p + 2 + nn + 6
      · have HN := Lib.hid (HBAD.out (enS_no6 (by rw [HSL.out]; omega) HNN.out (by rw [HSL.out]; exact h8)))
        have i6 : (s.size : Int) < (p : Int) + 2 + (nn : Int) + 6 := by omega
        have i7 : decide ((s.size : Int) < (p : Int) + 2 + (nn : Int) + 6) = true := decide_eq_true i6
        go_wp2_with fail
        go_ret2
        exact ⟨HKr.out.trans (kal _ _), .inl ⟨HN.out, rfl⟩⟩
      have i6 : ¬ ((s.size : Int) < (p : Int) + 2 + (nn : Int) + 6) := by omega
      have i7 : decide ((s.size : Int) < (p : Int) + 2 + (nn : Int) + 6) = false := decide_eq_false i6
      have rs := RS.out (p + 2) (p + 2 + nn) ((p : Int) + 2) ((p : Int) + 2 + (nn : Int)) (by omega) (by omega) (by omega) (by omega)
      obtain ⟨nm, hnm⟩ : ∃ nm, strB ((S.drop (p + 2)).take (p + 2 + nn - (p + 2))) = nm := ⟨_, rfl⟩
      rw [hnm] at rs
      have HNM : Hid (strB ((S.drop (p + 2)).take nn) = nm) := by show _ = _; rw [← hnm]; congr 2; omega
      have HNS : Hid (nm.size ≤ 1000000) := by
        show _ ≤ _
        rw [← hnm, strB_size, List.length_take]; omega
      obtain ⟨te, hto⟩ : ∃ te, p + 2 + nn = te := ⟨_, rfl⟩
      have HTO : Hid ((p : Int) + 2 + (nn : Int) = (te : Int)) := by show _ = _; omega
      have hto6 : te + 6 ≤ s.size := by omega
      have HT := Lib.hid hto
      clear hnm
      go_upto_region 16 with fail
      rw [HTO.out]
      refine (fun (h : ∀ wx : World, InR wk wx nm dd 0 (.slice none 0 0) → Code.wp _ _ _ _ wx) => h _ (by exact inr_new _ _ _ _ _)) ?_
      intro wx hxi
      have HI := Lib.hid hxi
      clear hxi rp rq rs i2 i3 i4 i5 i6 i7 HTO
      obtain ⟨y0, hy0⟩ : ∃ y, byT S te = y := ⟨_, rfl⟩
      obtain ⟨y1, hy1⟩ : ∃ y, byT S (te + 1) = y := ⟨_, rfl⟩
      obtain ⟨y2, hy2⟩ : ∃ y, byT S (te + 2) = y := ⟨_, rfl⟩
      obtain ⟨y3, hy3⟩ : ∃ y, byT S (te + 3) = y := ⟨_, rfl⟩
      have HR0 := Lib.hid (RB.out te te rfl (by omega))
      have HR1 := Lib.hid (RB.out (te + 1) ((te : Int) + 1) (by omega) (by omega))
      have HR2 := Lib.hid (RB.out (te + 2) ((te : Int) + 2) (by omega) (by omega))
      have HR3 := Lib.hid (RB.out (te + 3) ((te : Int) + 3) (by omega) (by omega))
      rw [hy0] at HR0
      rw [hy1] at HR1
      rw [hy2] at HR2
      rw [hy3] at HR3
      obtain ⟨z, hz⟩ : ∃ z, y0 * 16777216 + y1 * 65536 + y2 * 256 + y3 = z := ⟨_, rfl⟩
      have HBB : Hid (y0 < 256 ∧ y1 < 256 ∧ y2 < 256 ∧ y3 < 256 ∧ te ≤ 16384) := ⟨by rw [← hy0]; exact byT_lt S _, by rw [← hy1]; exact byT_lt S _, by rw [← hy2]; exact byT_lt S _, by rw [← hy3]; exact byT_lt S _, by omega⟩
      have HZ4 : Hid ((y0 : Int) * 16777216 + (y1 : Int) * 65536 + (y2 : Int) * 256 + (y3 : Int) = (z : Int)) := by show _ = _; omega
      have HNU := Lib.hid (nums16 HBB.out hz)
      have HZZ : Hid (byT S te * 16777216 + byT S (te + 1) * 65536 + byT S (te + 2) * 256 + byT S (te + 3) = z) := by show _ = _; rw [hy0, hy1, hy2, hy3, hz]
      clear hy0 hy1 hy2 hy3 hz
      refine wp_region_stageF [63, 64, 65, 66, 67, 68, 69, 70, 71, 72, 73, 74, 75, 76, 77, 78, 79, 80, 81, 82, 83, 84, 85, 86, 87, 88, 10026] [[], [], [0, 1], [2], [3], [], [], [6], [5, 7], [8], [9], [4, 10], [], [], [13], [12, 14], [15], [16], [11, 17], [], [], [20], [19, 21], [22], [18, 23], [], [24, 25]] [26] [0, 0, 0, 0, 0, 0, 0, 0, 0, 0, 0, 0, 0, 0, 0, 0, 0, 0, 0, 0, 0, 0, 0, 0, 0, 0, 0] [] [] [26] (fun i v _ => rrAP wk.heap.size te z y0 y1 y2 y3 s i v) (fun _ _ => True) (fun s _ w1 => rrA wk nm dd z s w1) (by kernel_rfl) (by kernel_rfl) (by kernel_rfl) (by kernel_rfl) (by kernel_rfl) (by kernel_rfl) (by kernel_rfl) ?_ ?_ ?_ ?_ ?_ ?_ ?_
      · exact fun _ _ _ _ _ h => h
      · exact fun _ => trivial
      · exact fun i s vs w h => by cases h
      · refine ⟨?_, ?_, ?_, ?_, ?_, ?_, ?_, ?_, ?_, ?_, ?_, ?_, ?_, ?_, ?_, ?_, ?_, ?_, ?_, ?_, ?_, ?_, ?_, ?_, ?_, ?_, ?_, trivial⟩
        · exact fun g b h => by (cases h)
        · exact fun g b h => by (cases h)
        · exact fun g b h => by (cases h)
        · exact fun g b h => by (cases h)
        · exact fun g b h => by (cases h)
        · exact fun g b h => by (cases h)
        · exact fun g b h => by (cases h)
        · exact fun g b h => by (cases h)
        · exact fun g b h => by (cases h)
        · exact fun g b h => by (cases h)
        · exact fun g b h => by (cases h)
        · exact fun g b h => by (cases h)
        · exact fun g b h => by (cases h)
        · exact fun g b h => by (cases h)
        · exact fun g b h => by (cases h)
        · exact fun g b h => by (cases h)
        · exact fun g b h => by (cases h)
        · exact fun g b h => by (cases h)
        · exact fun g b h => by (cases h)
        · exact fun g b h => by (cases h)
        · exact fun g b h => by (cases h)
        · exact fun g b h => by (cases h)
        · exact fun g b h => by (cases h)
        · exact fun g b h => by (cases h)
        · exact fun g b h => by (cases h)
        · exact fun g b h => by (cases h)
        · exact fun g b h => by (cases h)
      · exact fun _ _ => HI.out.keeps (by exact keeps_refl _)
      · refine ⟨?_, ?_, ?_, ?_, ?_, ?_, ?_, ?_, ?_, ?_, ?_, ?_, ?_, ?_, ?_, ?_, ?_, ?_, ?_, ?_, ?_, ?_, ?_, ?_, ?_, ?_, ?_, trivial⟩
        · intro _ s hs a w1 vs hI ho hn hu K hK
          obtain rfl : s = 0 := hs rfl
          clear hs
          have e0 : a.tmps[0]? = some (.string s) := ho 0 rfl
          clear hn ho hu
          have hI : InR wk w1 nm dd 0 (.slice none 0 0) := hI
          go_simp
          exact hK _ _ trivial hI rfl
        · intro _ s hs a w1 vs hI ho hn hu K hK
          obtain rfl : s = 0 := hs rfl
          clear hs
          have e9 : a.tmps[9]? = some (.int .i64 (te : Int)) := ho 9 rfl
          clear hn ho hu
          have hI : InR wk w1 nm dd 0 (.slice none 0 0) := hI
          go_simp
          exact hK _ _ trivial hI rfl
        · intro _ s hs a w1 vs hI ho hn hu K hK
          obtain rfl : s = 0 := hs rfl
          clear hs
          obtain ⟨e63, g63⟩ : a.tmps[63]? = some (vs 0) ∧ vs 0 = .string s := ⟨(hn 0 (by decide)).1 (by decide), (hn 0 (by decide)).2⟩
          rw [g63] at e63
          clear g63
          obtain ⟨e64, g64⟩ : a.tmps[64]? = some (vs 1) ∧ vs 1 = .int .i64 (te : Int) := ⟨(hn 1 (by decide)).1 (by decide), (hn 1 (by decide)).2⟩
          rw [g64] at e64
          clear g64
          clear hn ho hu
          have hI : InR wk w1 nm dd 0 (.slice none 0 0) := hI
          have c := HR0.out
          go_simp
          exact hK _ _ trivial hI rfl
        · intro _ s hs a w1 vs hI ho hn hu K hK
          obtain rfl : s = 0 := hs rfl
          clear hs
          obtain ⟨e65, g65⟩ : a.tmps[65]? = some (vs 2) ∧ vs 2 = .int .u8 (y0 : Int) := ⟨(hn 2 (by decide)).1 (by decide), (hn 2 (by decide)).2⟩
          rw [g65] at e65
          clear g65
          clear hn ho hu
          have hI : InR wk w1 nm dd 0 (.slice none 0 0) := hI
          have f1 := HNU.out.a3
          have f2 := HNU.out.b3
          go_simp
          exact hK _ _ trivial hI rfl
        · intro _ s hs a w1 vs hI ho hn hu K hK
          obtain rfl : s = 0 := hs rfl
          clear hs
          obtain ⟨e66, g66⟩ : a.tmps[66]? = some (vs 3) ∧ vs 3 = .int .i64 (y0 : Int) := ⟨(hn 3 (by decide)).1 (by decide), (hn 3 (by decide)).2⟩
          rw [g66] at e66
          clear g66
          clear hn ho hu
          have hI : InR wk w1 nm dd 0 (.slice none 0 0) := hI
          have f1 := HNU.out.a7
          have f2 := HNU.out.b7
          go_simp
          exact hK _ _ trivial hI rfl
        · intro _ s hs a w1 vs hI ho hn hu K hK
          obtain rfl : s = 0 := hs rfl
          clear hs
          have e0 : a.tmps[0]? = some (.string s) := ho 0 rfl
          clear hn ho hu
          have hI : InR wk w1 nm dd 0 (.slice none 0 0) := hI
          go_simp
          exact hK _ _ trivial hI rfl
        · intro _ s hs a w1 vs hI ho hn hu K hK
          obtain rfl : s = 0 := hs rfl
          clear hs
          have e9 : a.tmps[9]? = some (.int .i64 (te : Int)) := ho 9 rfl
          clear hn ho hu
          have hI : InR wk w1 nm dd 0 (.slice none 0 0) := hI
          go_simp
          exact hK _ _ trivial hI rfl
        · intro _ s hs a w1 vs hI ho hn hu K hK
          obtain rfl : s = 0 := hs rfl
          clear hs
          obtain ⟨e69, g69⟩ : a.tmps[69]? = some (vs 6) ∧ vs 6 = .int .i64 (te : Int) := ⟨(hn 6 (by decide)).1 (by decide), (hn 6 (by decide)).2⟩
          rw [g69] at e69
          clear g69
          clear hn ho hu
          have hI : InR wk w1 nm dd 0 (.slice none 0 0) := hI
          have f1 := HNU.out.a0
          have f2 := HNU.out.b0
          go_simp
          exact hK _ _ trivial hI rfl
        · intro _ s hs a w1 vs hI ho hn hu K hK
          obtain rfl : s = 0 := hs rfl
          clear hs
          obtain ⟨e68, g68⟩ : a.tmps[68]? = some (vs 5) ∧ vs 5 = .string s := ⟨(hn 5 (by decide)).1 (by decide), (hn 5 (by decide)).2⟩
          rw [g68] at e68
          clear g68
          obtain ⟨e70, g70⟩ : a.tmps[70]? = some (vs 7) ∧ vs 7 = .int .i64 ((te : Int) + 1) := ⟨(hn 7 (by decide)).1 (by decide), (hn 7 (by decide)).2⟩
          rw [g70] at e70
          clear g70
          clear hn ho hu
          have hI : InR wk w1 nm dd 0 (.slice none 0 0) := hI
          have c := HR1.out
          go_simp
          exact hK _ _ trivial hI rfl
        · intro _ s hs a w1 vs hI ho hn hu K hK
          obtain rfl : s = 0 := hs rfl
          clear hs
          obtain ⟨e71, g71⟩ : a.tmps[71]? = some (vs 8) ∧ vs 8 = .int .u8 (y1 : Int) := ⟨(hn 8 (by decide)).1 (by decide), (hn 8 (by decide)).2⟩
          rw [g71] at e71
          clear g71
          clear hn ho hu
          have hI : InR wk w1 nm dd 0 (.slice none 0 0) := hI
          have f1 := HNU.out.a4
          have f2 := HNU.out.b4
          go_simp
          exact hK _ _ trivial hI rfl
        · intro _ s hs a w1 vs hI ho hn hu K hK
          obtain rfl : s = 0 := hs rfl
          clear hs
          obtain ⟨e72, g72⟩ : a.tmps[72]? = some (vs 9) ∧ vs 9 = .int .i64 (y1 : Int) := ⟨(hn 9 (by decide)).1 (by decide), (hn 9 (by decide)).2⟩
          rw [g72] at e72
          clear g72
          clear hn ho hu
          have hI : InR wk w1 nm dd 0 (.slice none 0 0) := hI
          have f1 := HNU.out.a8
          have f2 := HNU.out.b8
          go_simp
          exact hK _ _ trivial hI rfl
        · intro _ s hs a w1 vs hI ho hn hu K hK
          obtain rfl : s = 0 := hs rfl
          clear hs
          obtain ⟨e67, g67⟩ : a.tmps[67]? = some (vs 4) ∧ vs 4 = .int .i64 ((y0 : Int) * 16777216) := ⟨(hn 4 (by decide)).1 (by decide), (hn 4 (by decide)).2⟩
          rw [g67] at e67
          clear g67
          obtain ⟨e73, g73⟩ : a.tmps[73]? = some (vs 10) ∧ vs 10 = .int .i64 ((y1 : Int) * 65536) := ⟨(hn 10 (by decide)).1 (by decide), (hn 10 (by decide)).2⟩
          rw [g73] at e73
          clear g73
          clear hn ho hu
          have hI : InR wk w1 nm dd 0 (.slice none 0 0) := hI
          have f1 := HNU.out.a10
          have f2 := HNU.out.b10
          go_simp
          exact hK _ _ trivial hI rfl
        · intro _ s hs a w1 vs hI ho hn hu K hK
          obtain rfl : s = 0 := hs rfl
          clear hs
          have e0 : a.tmps[0]? = some (.string s) := ho 0 rfl
          clear hn ho hu
          have hI : InR wk w1 nm dd 0 (.slice none 0 0) := hI
          go_simp
          exact hK _ _ trivial hI rfl
        · intro _ s hs a w1 vs hI ho hn hu K hK
          obtain rfl : s = 0 := hs rfl
          clear hs
          have e9 : a.tmps[9]? = some (.int .i64 (te : Int)) := ho 9 rfl
          clear hn ho hu
          have hI : InR wk w1 nm dd 0 (.slice none 0 0) := hI
          go_simp
          exact hK _ _ trivial hI rfl
        · intro _ s hs a w1 vs hI ho hn hu K hK
          obtain rfl : s = 0 := hs rfl
          clear hs
          obtain ⟨e76, g76⟩ : a.tmps[76]? = some (vs 13) ∧ vs 13 = .int .i64 (te : Int) := ⟨(hn 13 (by decide)).1 (by decide), (hn 13 (by decide)).2⟩
          rw [g76] at e76
          clear g76
          clear hn ho hu
          have hI : InR wk w1 nm dd 0 (.slice none 0 0) := hI
          have f1 := HNU.out.a1
          have f2 := HNU.out.b1
          go_simp
          exact hK _ _ trivial hI rfl
        · intro _ s hs a w1 vs hI ho hn hu K hK
          obtain rfl : s = 0 := hs rfl
          clear hs
          obtain ⟨e75, g75⟩ : a.tmps[75]? = some (vs 12) ∧ vs 12 = .string s := ⟨(hn 12 (by decide)).1 (by decide), (hn 12 (by decide)).2⟩
          rw [g75] at e75
          clear g75
          obtain ⟨e77, g77⟩ : a.tmps[77]? = some (vs 14) ∧ vs 14 = .int .i64 ((te : Int) + 2) := ⟨(hn 14 (by decide)).1 (by decide), (hn 14 (by decide)).2⟩
          rw [g77] at e77
          clear g77
          clear hn ho hu
          have hI : InR wk w1 nm dd 0 (.slice none 0 0) := hI
          have c := HR2.out
          go_simp
          exact hK _ _ trivial hI rfl
        · intro _ s hs a w1 vs hI ho hn hu K hK
          obtain rfl : s = 0 := hs rfl
          clear hs
          obtain ⟨e78, g78⟩ : a.tmps[78]? = some (vs 15) ∧ vs 15 = .int .u8 (y2 : Int) := ⟨(hn 15 (by decide)).1 (by decide), (hn 15 (by decide)).2⟩
          rw [g78] at e78
          clear g78
          clear hn ho hu
          have hI : InR wk w1 nm dd 0 (.slice none 0 0) := hI
          have f1 := HNU.out.a5
          have f2 := HNU.out.b5
          go_simp
          exact hK _ _ trivial hI rfl
        · intro _ s hs a w1 vs hI ho hn hu K hK
          obtain rfl : s = 0 := hs rfl
          clear hs
          obtain ⟨e79, g79⟩ : a.tmps[79]? = some (vs 16) ∧ vs 16 = .int .i64 (y2 : Int) := ⟨(hn 16 (by decide)).1 (by decide), (hn 16 (by decide)).2⟩
          rw [g79] at e79
          clear g79
          clear hn ho hu
          have hI : InR wk w1 nm dd 0 (.slice none 0 0) := hI
          have f1 := HNU.out.a9
          have f2 := HNU.out.b9
          go_simp
          exact hK _ _ trivial hI rfl
        · intro _ s hs a w1 vs hI ho hn hu K hK
          obtain rfl : s = 0 := hs rfl
          clear hs
          obtain ⟨e74, g74⟩ : a.tmps[74]? = some (vs 11) ∧ vs 11 = .int .i64 ((y0 : Int) * 16777216 + (y1 : Int) * 65536) := ⟨(hn 11 (by decide)).1 (by decide), (hn 11 (by decide)).2⟩
          rw [g74] at e74
          clear g74
          obtain ⟨e80, g80⟩ : a.tmps[80]? = some (vs 17) ∧ vs 17 = .int .i64 ((y2 : Int) * 256) := ⟨(hn 17 (by decide)).1 (by decide), (hn 17 (by decide)).2⟩
          rw [g80] at e80
          clear g80
          clear hn ho hu
          have hI : InR wk w1 nm dd 0 (.slice none 0 0) := hI
          have f1 := HNU.out.a11
          have f2 := HNU.out.b11
          go_simp
          exact hK _ _ trivial hI rfl
        · intro _ s hs a w1 vs hI ho hn hu K hK
          obtain rfl : s = 0 := hs rfl
          clear hs
          have e0 : a.tmps[0]? = some (.string s) := ho 0 rfl
          clear hn ho hu
          have hI : InR wk w1 nm dd 0 (.slice none 0 0) := hI
          go_simp
          exact hK _ _ trivial hI rfl
        · intro _ s hs a w1 vs hI ho hn hu K hK
          obtain rfl : s = 0 := hs rfl
          clear hs
          have e9 : a.tmps[9]? = some (.int .i64 (te : Int)) := ho 9 rfl
          clear hn ho hu
          have hI : InR wk w1 nm dd 0 (.slice none 0 0) := hI
          go_simp
          exact hK _ _ trivial hI rfl
        · intro _ s hs a w1 vs hI ho hn hu K hK
          obtain rfl : s = 0 := hs rfl
          clear hs
          obtain ⟨e83, g83⟩ : a.tmps[83]? = some (vs 20) ∧ vs 20 = .int .i64 (te : Int) := ⟨(hn 20 (by decide)).1 (by decide), (hn 20 (by decide)).2⟩
          rw [g83] at e83
          clear g83
          clear hn ho hu
          have hI : InR wk w1 nm dd 0 (.slice none 0 0) := hI
          have f1 := HNU.out.a2
          have f2 := HNU.out.b2
          go_simp
          exact hK _ _ trivial hI rfl
        · intro _ s hs a w1 vs hI ho hn hu K hK
          obtain rfl : s = 0 := hs rfl
          clear hs
          obtain ⟨e82, g82⟩ : a.tmps[82]? = some (vs 19) ∧ vs 19 = .string s := ⟨(hn 19 (by decide)).1 (by decide), (hn 19 (by decide)).2⟩
          rw [g82] at e82
          clear g82
          obtain ⟨e84, g84⟩ : a.tmps[84]? = some (vs 21) ∧ vs 21 = .int .i64 ((te : Int) + 3) := ⟨(hn 21 (by decide)).1 (by decide), (hn 21 (by decide)).2⟩
          rw [g84] at e84
          clear g84
          clear hn ho hu
          have hI : InR wk w1 nm dd 0 (.slice none 0 0) := hI
          have c := HR3.out
          go_simp
          exact hK _ _ trivial hI rfl
        · intro _ s hs a w1 vs hI ho hn hu K hK
          obtain rfl : s = 0 := hs rfl
          clear hs
          obtain ⟨e85, g85⟩ : a.tmps[85]? = some (vs 22) ∧ vs 22 = .int .u8 (y3 : Int) := ⟨(hn 22 (by decide)).1 (by decide), (hn 22 (by decide)).2⟩
          rw [g85] at e85
          clear g85
          clear hn ho hu
          have hI : InR wk w1 nm dd 0 (.slice none 0 0) := hI
          have f1 := HNU.out.a6
          have f2 := HNU.out.b6
          go_simp
          exact hK _ _ trivial hI rfl
        · intro _ s hs a w1 vs hI ho hn hu K hK
          obtain rfl : s = 0 := hs rfl
          clear hs
          obtain ⟨e81, g81⟩ : a.tmps[81]? = some (vs 18) ∧ vs 18 = .int .i64 ((y0 : Int) * 16777216 + (y1 : Int) * 65536 + (y2 : Int) * 256) := ⟨(hn 18 (by decide)).1 (by decide), (hn 18 (by decide)).2⟩
          rw [g81] at e81
          clear g81
          obtain ⟨e86, g86⟩ : a.tmps[86]? = some (vs 23) ∧ vs 23 = .int .i64 (y3 : Int) := ⟨(hn 23 (by decide)).1 (by decide), (hn 23 (by decide)).2⟩
          rw [g86] at e86
          clear g86
          clear hn ho hu
          have hI : InR wk w1 nm dd 0 (.slice none 0 0) := hI
          have c := HZ4.out
          have f1 := HNU.out.a12
          have f2 := HNU.out.b12
          go_simp
          exact hK _ _ trivial hI rfl
        · intro _ s hs a w1 vs hI ho hn hu K hK
          obtain rfl : s = 0 := hs rfl
          clear hs
          have e7 : a.tmps[7]? = some (.pointer (some ⟨wk.heap.size, 0, none⟩)) := ho 7 rfl
          clear hn ho hu
          have hI : InR wk w1 nm dd 0 (.slice none 0 0) := hI
          go_simp
          exact hK _ _ trivial hI rfl
        · intro _ s hs a w1 vs hI ho hn hu K hK
          obtain rfl : s = 0 := hs rfl
          clear hs
          obtain ⟨e87, g87⟩ : a.tmps[87]? = some (vs 24) ∧ vs 24 = .int .i64 (z : Int) := ⟨(hn 24 (by decide)).1 (by decide), (hn 24 (by decide)).2⟩
          rw [g87] at e87
          clear g87
          obtain ⟨e88, g88⟩ : a.tmps[88]? = some (vs 25) ∧ vs 25 = .pointer (some ⟨wk.heap.size, 2, none⟩) := ⟨(hn 25 (by decide)).1 (by decide), (hn 25 (by decide)).2⟩
          rw [g88] at e88
          clear g88
          clear hn ho hu
          have hI : InR wk w1 nm dd 0 (.slice none 0 0) := hI
          have c := hI.xb.cell (i := 2) rfl
          have f := hI.xb.froz 2
          go_simp
          exact hK undef _ trivial (InR.setF hI 2 _ rfl) rfl
      intro vs ws hI hG
      have HI : Hid (InR wk ws nm dd z (.slice none 0 0)) := hI
      clear hG hI
      simp only [setAll, Nat.zero_add, Nat.reduceAdd, List.setIfInBounds_toArray, List.set_cons_zero, List.set_cons_succ, List.set_nil]
      generalize vs 0 = x0 at *
      generalize vs 1 = x1 at *
      generalize vs 2 = x2 at *
      generalize vs 3 = x3 at *
      generalize vs 4 = x4 at *
      generalize vs 5 = x5 at *
      generalize vs 6 = x6 at *
      generalize vs 7 = x7 at *
      generalize vs 8 = x8 at *
      generalize vs 9 = x9 at *
      generalize vs 10 = x10 at *
      generalize vs 11 = x11 at *
      generalize vs 12 = x12 at *
      generalize vs 13 = x13 at *
      generalize vs 14 = x14 at *
      generalize vs 15 = x15 at *
      generalize vs 16 = x16 at *
      generalize vs 17 = x17 at *
      generalize vs 18 = x18 at *
      generalize vs 19 = x19 at *
      generalize vs 20 = x20 at *
      generalize vs 21 = x21 at *
      generalize vs 22 = x22 at *
      generalize vs 23 = x23 at *
      generalize vs 24 = x24 at *
      generalize vs 25 = x25 at *
      generalize vs 26 = x26 at *
      clear HR0 HR1 HR2 HR3 HZ4 HBB HNU
      obtain ⟨wy, hwy⟩ : ∃ wy : World, wy = ws := ⟨_, rfl⟩
      rw [← hwy] at HI ⊢
      clear hwy
      have r4 := RB.out (te + 4) ((te : Int) + 4) (by omega) (by omega)
      have r5 := RB.out (te + 5) ((te : Int) + 5) (by omega) (by omega)
      have hb4 := byT_lt S (te + 4)
      have hb5 := byT_lt S (te + 5)
      obtain ⟨m, hm⟩ : ∃ m, byT S (te + 4) * 256 + byT S (te + 5) = m := ⟨_, rfl⟩
      have HV : Hid ((byT S (te + 4) : Int) * 256 + (byT S (te + 5) : Int) = (m : Int)) := by show _ = _; rw [← hm]; omega
      have hm6 : m < 65536 := by omega
      have HM := Lib.hid hm
      clear hm
      generalize hya : byT S (te + 4) = ya at *
      generalize hyb : byT S (te + 5) = yb at *
      have HYA := Lib.hid hya
      have HYB := Lib.hid hyb
      clear hya hyb
      go_wp2_with fail
      go_quiet (fail)
      rw [HV.out]
      go_upto_region 18 with fail
      refine (fun (h : ∀ wv : World, InR wk wv nm dd z (.slice none 0 0) → Code.wp _ _ _ _ wv) => h _ (by exact HI.out.keeps (by exact keeps_refl _))) ?_
      intro wv hxi
      have HI := Lib.hid hxi
      clear hxi r4 r5 HV hb4 hb5
      have HEN : Hid (enS (S.drop p) false = (⟨nm, dd, (z : Int), (chS m [] (S.drop (te + 6)) (decide (1 < κ))).1⟩, (chS m [] (S.drop (te + 6)) (decide (1 < κ))).2.1, (chS m [] (S.drop (te + 6)) (decide (1 < κ))).2.2)) := by
        show _ = _
        have h := enS_at (S := S) (p := p) (κ := κ) (nn := nn) (z := z) (m := m) (by rw [HSL.out]; omega) HKA.out HNN.out (by rw [HSL.out]; omega) (by rw [HT.out]; exact HZZ.out) (by rw [HT.out, HYA.out, HYB.out]; exact HM.out)
        rw [HT.out, HNM.out, HDD.out] at h
        exact h
      by_cases h32 : s.size < te + 6 + 32 * m
      · have HN := Lib.hid (HBAD.out (by rw [HEN.out]; exact chS_no m _ _ _ (by rw [HSL.out]; exact hto6) (by rw [HSL.out]; exact h32)))
        have i6 : (s.size : Int) < (te : Int) + 6 + 32 * (m : Int) := by omega
        have i7 : decide ((s.size : Int) < (te : Int) + 6 + 32 * (m : Int)) = true := decide_eq_true i6
        go_wp2_with fail
        go_ret2
        exact ⟨HKr.out.trans HI.out.kp, .inl ⟨HN.out, rfl⟩⟩
      have i6 : ¬ ((s.size : Int) < (te : Int) + 6 + 32 * (m : Int)) := by omega
      have i7 : decide ((s.size : Int) < (te : Int) + 6 + 32 * (m : Int)) = false := decide_eq_false i6
      obtain ⟨FC, hFC⟩ : ∃ F, chS m [] (S.drop (te + 6)) false = F := ⟨_, rfl⟩
      have HFC := Lib.hid hFC
      have HEN2 : Hid (∀ c r', FC = (c, r', false) → enS (S.drop p) false = (⟨nm, dd, (z : Int), c⟩, r', false) ∨ (enS (S.drop p) false).2.2 = true) := fun c r' hF => by
        have h := HEN.out
        by_cases h1 : 1 < κ
        · right
          rw [decide_eq_true h1] at h
          rw [h]; exact chS_bad _ _ _
        · left
          rw [decide_eq_false h1, hFC, hF] at h
          exact h
      clear hFC HEN HBAD
      have hm32 : te + 6 + 32 * m ≤ s.size := by omega
      go_wp2_with fail
      go_loopw [5, 11] (fun va vk wr => ∃ (j q : Nat) (c : List ByteArray) (cv : Value), j ≤ m ∧ vk = .int .i64 j ∧ va = .int .i64 q ∧ q + 32 * (m - j) ≤ s.size ∧ c.length ≤ j ∧ Hid (chS (m - j) c (S.drop q) false = FC) ∧ Hid (InR wk wr nm dd z cv) ∧ Hid (ChR wk wr cv c)) (fun _ vk _ => m - (intOf vk).toNat)
      case atStart => exact ⟨0, te + 6, [], .slice none 0 0, by omega, rfl, by go_num, by omega, by simp, HFC.out, HI.out, OwnSeq.nil _ _ _ _⟩
      case round =>
        obtain ⟨j, q, c, cv, hj, rfl, rfl, hq, hcl, HEc, HIc, HC⟩ := hrel
        obtain ⟨wq, rfl⟩ : ∃ wy : World, wy = wr := ⟨_, rfl⟩
        clear HI HFC i6 i7
        have HI := HIc
        clear HIc
        obtain ⟨pc, qc, rfl⟩ : ∃ p q, cv = .slice p c.length q := by
          obtain ⟨us, h1, h2, _⟩ := HC.out
          obtain ⟨p, q, e, _⟩ := own_sliceC h1
          exact ⟨p, q, by rw [e, h2]⟩
        by_cases hjm : j < m
        · have hq2 : q + 32 + 32 * (m - (j + 1)) ≤ s.size := by omega
          have hqs : q + 32 ≤ s.size := by omega
          have HE3 : Hid (chS (m - (j + 1)) (c ++ [strB ((S.drop q).take 32)]) (S.drop (q + 32)) false = FC) := by
            show _ = _
            obtain ⟨t1, t2, t3⟩ := tk_drop (S := S) (p := q) (m := 32) (by rw [HSL.out]; exact hqs)
            have e : m - j = m - (j + 1) + 1 := by omega
            have h := HEc.out
            rw [e, chS_nx, t1, t2, t3] at h
            exact h
          have HRS := Lib.hid (RS.out q (q + 32) (q : Int) ((q : Int) + 32) rfl (by omega) (by omega) hqs)
          rw [show q + 32 - q = 32 by omega] at HRS
          have HQ32 := Lib.hid (wr32 (show q ≤ 1000000 by omega))
          have HGQ : Hid (wk.heap.size < wq.heap.size) := HI.out.lt
          have HCL : Hid (c.length ≤ 65535) := by show _ ≤ _; omega
          have HOB : Hid (∀ k, (Value.slice pc c.length qc).ownBlock = some k → k < wq.heap.size) := by
            obtain ⟨us, h1, _, _⟩ := HC.out
            exact fun k hk => (own_block h1 k hk).2.1
          have hcl2 : (c ++ [strB ((S.drop q).take 32)]).length ≤ j + 1 := by rw [List.length_append]; simp; omega
          clear HEc
          go_upto_region 24 with (fail)
          refine wp_region_stageG [115, 116, 117, 118, 119, 120, 121, 122, 123, 124, 10010] [[], [0], [], [], [], [4], [2, 3, 5], [6], [1, 7], [], [8, 9]] [8, 10] [0, 0, 0, 0, 0, 0, 0, 0, 0, 0, 1] [] [9] [10] (rrBP wk.heap.size wq.heap.size c.length q S s pc qc) (fun w w' => Chg (fun b => b < wq.heap.size) w w') (rrB wk wq.heap.size c.length q S nm dd z pc qc c) (by kernel_rfl) (by kernel_rfl) (by kernel_rfl) (by kernel_rfl) (by kernel_rfl) (by kernel_rfl) (by kernel_rfl) ?_ ?_ ?_ ?_ ?_ ?_ ?_
          · exact fun i v w w' c h => rrBP_chg i v w w' c h
          · exact fun _ => Chg.refl _ _
          · exact fun i s vs w h => by cases h
          · refine ⟨?_, ?_, ?_, ?_, ?_, ?_, ?_, ?_, ?_, ?_, ?_, trivial⟩
            · exact fun g b h => by (cases h)
            · exact fun g b h => by (cases h)
            · exact fun g b h => by (cases h)
            · exact fun g b h => by (cases h)
            · exact fun g b h => by (cases h)
            · exact fun g b h => by (cases h)
            · exact fun g b h => by (cases h)
            · exact fun g b h => by (cases h)
            · exact fun g b h => by (cases h)
            · exact fun g b h => by (cases h)
            · exact fun g b h => by (cases h)
          · exact fun _ _ => ⟨HI.out.keeps (by exact keeps_refl _), ChR.keeps HC.out (by exact keeps_refl _), Nat.le_refl _⟩
          · refine ⟨?_, ?_, ?_, ?_, ?_, ?_, ?_, ?_, ?_, ?_, ?_, trivial⟩
            · intro _ s hs a w1 vs hI ho hn hu K hK
              obtain rfl : s = 0 := hs.1 rfl
              clear hs
              have e7 : a.tmps[7]? = some (.pointer (some ⟨wk.heap.size, 0, none⟩)) := ho 7 rfl
              clear hn ho hu
              have hI : InR wk w1 nm dd z (.slice pc c.length qc) ∧ ChR wk w1 (.slice pc c.length qc) c ∧ wq.heap.size ≤ w1.heap.size := hI
              go_simp
              exact hK _ _ (Chg.refl _ _) hI rfl
            · intro _ s hs a w1 vs hI ho hn hu K hK
              obtain rfl : s = 0 := hs.1 rfl
              clear hs
              obtain ⟨e115, g115⟩ : a.tmps[115]? = some (vs 0) ∧ vs 0 = .pointer (some ⟨wk.heap.size, 3, none⟩) := ⟨(hn 0 (by decide)).1 (by decide), (hn 0 (by decide)).2⟩
              rw [g115] at e115
              clear g115
              clear hn ho hu
              have hI : InR wk w1 nm dd z (.slice pc c.length qc) ∧ ChR wk w1 (.slice pc c.length qc) c ∧ wq.heap.size ≤ w1.heap.size := hI
              have c := hI.1.xb.cell (i := 3) rfl
              go_simp
              exact hK _ _ (Chg.refl _ _) hI rfl
            · intro _ s hs a w1 vs hI ho hn hu K hK
              obtain rfl : s = 0 := hs.1 rfl
              clear hs
              have e0 : a.tmps[0]? = some (.string s) := ho 0 rfl
              clear hn ho hu
              have hI : InR wk w1 nm dd z (.slice pc c.length qc) ∧ ChR wk w1 (.slice pc c.length qc) c ∧ wq.heap.size ≤ w1.heap.size := hI
              go_simp
              exact hK _ _ (Chg.refl _ _) hI rfl
            · intro _ s hs a w1 vs hI ho hn hu K hK
              obtain rfl : s = 0 := hs.1 rfl
              clear hs
              have e5 : a.tmps[5]? = some (.int .i64 (q : Int)) := ho 5 rfl
              clear hn ho hu
              have hI : InR wk w1 nm dd z (.slice pc c.length qc) ∧ ChR wk w1 (.slice pc c.length qc) c ∧ wq.heap.size ≤ w1.heap.size := hI
              go_simp
              exact hK _ _ (Chg.refl _ _) hI rfl
            · intro _ s hs a w1 vs hI ho hn hu K hK
              obtain rfl : s = 0 := hs.1 rfl
              clear hs
              have e5 : a.tmps[5]? = some (.int .i64 (q : Int)) := ho 5 rfl
              clear hn ho hu
              have hI : InR wk w1 nm dd z (.slice pc c.length qc) ∧ ChR wk w1 (.slice pc c.length qc) c ∧ wq.heap.size ≤ w1.heap.size := hI
              go_simp
              exact hK _ _ (Chg.refl _ _) hI rfl
            · intro _ s hs a w1 vs hI ho hn hu K hK
              obtain rfl : s = 0 := hs.1 rfl
              clear hs
              obtain ⟨e119, g119⟩ : a.tmps[119]? = some (vs 4) ∧ vs 4 = .int .i64 (q : Int) := ⟨(hn 4 (by decide)).1 (by decide), (hn 4 (by decide)).2⟩
              rw [g119] at e119
              clear g119
              clear hn ho hu
              have hI : InR wk w1 nm dd z (.slice pc c.length qc) ∧ ChR wk w1 (.slice pc c.length qc) c ∧ wq.heap.size ≤ w1.heap.size := hI
              have f1 := HQ32.out.1
              have f2 := HQ32.out.2
              go_simp
              exact hK _ _ (Chg.refl _ _) hI rfl
            · intro _ s hs a w1 vs hI ho hn hu K hK
              obtain rfl : s = 0 := hs.1 rfl
              clear hs
              obtain ⟨e117, g117⟩ : a.tmps[117]? = some (vs 2) ∧ vs 2 = .string s := ⟨(hn 2 (by decide)).1 (by decide), (hn 2 (by decide)).2⟩
              rw [g117] at e117
              clear g117
              obtain ⟨e118, g118⟩ : a.tmps[118]? = some (vs 3) ∧ vs 3 = .int .i64 (q : Int) := ⟨(hn 3 (by decide)).1 (by decide), (hn 3 (by decide)).2⟩
              rw [g118] at e118
              clear g118
              obtain ⟨e120, g120⟩ : a.tmps[120]? = some (vs 5) ∧ vs 5 = .int .i64 ((q : Int) + 32) := ⟨(hn 5 (by decide)).1 (by decide), (hn 5 (by decide)).2⟩
              rw [g120] at e120
              clear g120
              clear hn ho hu
              have hI : InR wk w1 nm dd z (.slice pc c.length qc) ∧ ChR wk w1 (.slice pc c.length qc) c ∧ wq.heap.size ≤ w1.heap.size := hI
              have c := HRS.out
              go_simp
              exact hK _ _ (Chg.refl _ _) hI rfl
            · intro _ s hs a w1 vs hI ho hn hu K hK
              obtain rfl : s = 0 := hs.1 rfl
              clear hs
              obtain ⟨e121, g121⟩ : a.tmps[121]? = some (vs 6) ∧ vs 6 = .string (strB ((S.drop q).take 32)) := ⟨(hn 6 (by decide)).1 (by decide), (hn 6 (by decide)).2⟩
              rw [g121] at e121
              clear g121
              clear hn ho hu
              have hI : InR wk w1 nm dd z (.slice pc c.length qc) ∧ ChR wk w1 (.slice pc c.length qc) c ∧ wq.heap.size ≤ w1.heap.size := hI
              go_simp
              exact hK _ _ (Kept.any (kal _ _)) ⟨InR.keeps hI.1 (kal _ _), ChR.keeps hI.2.1 (kal _ _), Nat.le_trans hI.2.2 (kal _ _).size⟩ ⟨_, rfl, hI.2.2, BlkAt.new _ _ _⟩
            · intro _ s hs a w1 vs hI ho hn hu K hK
              obtain rfl : s = 0 := hs.1 rfl
              clear hs
              obtain ⟨e116, g116⟩ : a.tmps[116]? = some (vs 1) ∧ vs 1 = .slice pc c.length qc := ⟨(hn 1 (by decide)).1 (by decide), (hn 1 (by decide)).2⟩
              rw [g116] at e116
              clear g116
              obtain ⟨e122, g122⟩ : a.tmps[122]? = some (vs 7) ∧ ∃ g, (vs 7) = .slice (some ⟨g, 0, none⟩) 1 1 ∧ wq.heap.size ≤ g ∧ BlkAt w1 g 9 #[.string (strB ((S.drop q).take 32))] := ⟨(hn 7 (by decide)).1 (by decide), (hn 7 (by decide)).2⟩
              clear hn ho hu
              have hI : InR wk w1 nm dd z (.slice pc c.length qc) ∧ ChR wk w1 (.slice pc c.length qc) c ∧ wq.heap.size ≤ w1.heap.size := hI
              obtain ⟨g, r9, hq, gb⟩ := g122
              rw [r9] at e122
              obtain ⟨us, hu1, hu2, hu3⟩ := hI.2.1
              have hul : us.length = c.length := hu2
              refine oper_appr1 elTextK rfl (.tmp 116) (.tmp 122) rfl wk.heap.size (.slice pc c.length qc) us.length us (by simp [Act.eval, e116]) hu1 g [.string (strB ((S.drop q).take 32))] (by simp [Act.eval, e122]) rfl (blk_cells gb) (by intro y hy; simp at hy; subst hy; rfl) (by have := HCL.out; omega) (Nat.le_of_lt hI.1.lt) ?_
              intro v' w' ho hc
              exact hK v' w' (hc.mono fun k _ e => HOB.out k e) ⟨InR.grow hI.1 hc (fun k hk => let ⟨a, _, d⟩ := own_block hu1 k hk; ⟨a, d⟩), by rw [upd_self]; exact OwnSeq.push hu2 hu3 ho (fun _ _ _ x => x) rfl⟩ (let ⟨p, q, e, _⟩ := own_sliceC ho; ⟨p, q, by rw [e, hul]⟩)
            · intro _ s hs a w1 vs hI ho hn hu K hK
              have hsb : s ≤ 1 := hs.2 1 (by decide) (by decide +kernel)
              clear hs
              have e7 : a.tmps[7]? = some (.pointer (some ⟨wk.heap.size, 0, none⟩)) := ho 7 rfl
              clear hn ho hu
              go_simp
              exact hK _ _ (Chg.refl _ _) (rrB_upd hI (by decide)) rfl
            · intro _ s hs a w1 vs hI ho hn hu K hK
              obtain rfl : s = 1 := hs.1 rfl
              clear hs
              obtain ⟨e123, g123⟩ : a.tmps[123]? = some (vs 8) ∧ ∃ p q, (vs 8) = .slice p (c.length + 1) q := ⟨(hn 8 (by decide)).1 (by decide), (hn 8 (by decide)).2⟩
              obtain ⟨e124, g124⟩ : a.tmps[124]? = some (vs 9) ∧ vs 9 = .pointer (some ⟨wk.heap.size, 3, none⟩) := ⟨(hn 9 (by decide)).1 (by decide), (hn 9 (by decide)).2⟩
              rw [g124] at e124
              clear g124
              clear hn ho hu
              have hI : InR wk w1 nm dd z (.slice pc c.length qc) ∧ ChR wk w1 (vs 8) (c ++ [(strB ((S.drop q).take 32))]) := hI
              obtain ⟨p, q, r9⟩ := g123
              rw [r9] at e123
              have c := hI.1.xb.cell (i := 3) rfl
              have f := hI.1.xb.froz 3
              go_simp
              refine hK undef _ ((chg_set _ _ _ _).mono fun k _ e => by subst e; exact HGQ.out) ?_ rfl
              rw [← r9]
              exact ⟨InR.setF hI.1 3 _ rfl, ChR.setF hI.2 hI.1 3 _⟩
          intro vs ws hI hG
          obtain ⟨hx, hc⟩ : InR wk ws nm dd z (vs 8) ∧ ChR wk ws (vs 8) (c ++ [(strB ((S.drop q).take 32))]) := hI
          clear hG
          simp only [setAll, Nat.zero_add, Nat.reduceAdd, List.setIfInBounds_toArray, List.set_cons_zero, List.set_cons_succ, List.set_nil]
          generalize vs 0 = x0 at *
          generalize vs 1 = x1 at *
          generalize vs 2 = x2 at *
          generalize vs 3 = x3 at *
          generalize vs 4 = x4 at *
          generalize vs 5 = x5 at *
          generalize vs 6 = x6 at *
          generalize vs 7 = x7 at *
          generalize vs 8 = x8 at *
          generalize vs 9 = x9 at *
          generalize vs 10 = x10 at *
          have HI9 := Lib.hid hx
          have HC9 := Lib.hid hc
          clear hx hc
          generalize (c ++ [strB ((S.drop q).take 32)]) = c2 at *
          clear HRS HQ32
          go_wp2_with fail
          refine ⟨?_, by simp [intOf]; omega⟩
          first | exact ⟨j + 1, q + 32, c2, _, by omega, by go_num, by go_num, hq2, hcl2, HE3, HI9, HC9⟩ | ((repeat apply Exists.intro); exact ⟨⟨j + 1, q + 32, c2, _, by omega, by go_num, by go_num, hq2, hcl2, HE3, HI9, HC9⟩, rfl⟩)
        · obtain rfl : j = m := by omega
          have HF : Hid (FC = (c, S.drop q, false)) := by show _ = _; rw [← HEc.out, Nat.sub_self, chS]
          have HNX2 := Lib.hid (HNX.out _ _ (HEN2.out _ _ HF.out))
          have HCS : Hid (SeqIn (w.heap.size ≤ ·) 9 IsText wq.heap (.slice pc c.length qc) c) := (OwnSeq.seq HC.out (by omega)).mono (fun b hb => Nat.le_trans HKr.out.size hb) fun _ _ x => x
          have HCQ : Hid (c.length ≤ qc) := by
            obtain ⟨us, h1, h2, _⟩ := HC.out
            obtain ⟨p, q, e, hq⟩ := own_sliceC h1
            injection e with e1 e2 e3
            subst e3
            show _ ≤ _; omega
          have HO2 : OutR w wq u4 acc := OwnRec.keeps HOr.out HI.out.kp fun a b _ x => IsEntT.chg (T := fun _ => False) x (Kept.any HI.out.kp) fun _ _ _ _ x => x
          have hal3 : (acc ++ [(⟨nm, dd, (z : Int), c⟩ : EntR)]).length + n' ≤ N := by rw [List.length_append]; simp; omega
          have HSE2 : Hid (SmallE (acc ++ [⟨nm, dd, (z : Int), c⟩])) := HSE.out.push (by dsimp only; omega) HNS.out
          have HKq := Lib.hid (HKr.out.trans HI.out.kp)
          obtain ⟨us, hu1, hu2, hu3⟩ := HO2
          obtain ⟨pv, qv, rfl, _⟩ := own_sliceC hu1
          have HU := Lib.hid hu1
          have HL2 := Lib.hid hu2
          have H3 := Lib.hid hu3
          have hul : us.length ≤ 65536 := by omega
          have d0 : wq.cell? ⟨wk.heap.size, 0, none⟩ = some (.string nm) := HI.out.xb.cell rfl
          have d1 : wq.cell? ⟨wk.heap.size, 1, none⟩ = some (.bool dd) := HI.out.xb.cell rfl
          have d2 : wq.cell? ⟨wk.heap.size, 2, none⟩ = some (.int .i64 (z : Int)) := HI.out.xb.cell rfl
          have d3 : wq.cell? ⟨wk.heap.size, 3, none⟩ = some (.slice pc c.length qc) := HI.out.xb.cell rfl
          have hws := HKq.out.size
          clear hu1 hu2 hu3 HEN2 HNX HF HC HEc
          go_wp2_with (at_builtin; refine wp_appr1 elEntT rfl (.tmp 127) (.tmp 129) rfl w.heap.size (.slice pv us.length qv) us.length us.flatten rfl (HU.out.alloc _) wq.heap.size [.string nm, .bool dd, .int .i64 (z : Int), .slice pc c.length qc] rfl rfl (blk_cells (heap_alloc_new _ _)) (fun y hy => by simp at hy; rcases hy with rfl | rfl | rfl | rfl <;> rfl) (by omega) (by simp; omega) ?_; intro v' w6 hown hchg; have HX9 : Hid (Keeps w w6) := keeps_own HKq.out (kal _ _) HU.out hchg; have HO9 : Hid (OutR w w6 v' (acc ++ [⟨nm, dd, (z : Int), c⟩])) := outr_push HL2.out H3.out HU.out (kal _ _) hown hchg HCS.out HCQ.out; clear hown hchg)
          clear d0 d1 d2 d3
          refine ⟨?_, by simp [intOf]; omega⟩
          first | exact ⟨n', q, _, by omega, by rw [HN1.out], rfl, by omega, hal3, HNX2, HX9, HO9, HSE2⟩ | ((repeat apply Exists.intro); exact ⟨⟨n', q, _, by omega, by rw [HN1.out], rfl, by omega, hal3, HNX2, HX9, HO9, HSE2⟩, rfl⟩)
    · obtain rfl : n = 0 := by omega
      have HFI : Hid (∀ l, readP S = some l → l = acc) := fun l hl => by
        have f := HFR.out l hl
        have e := HE.out (by rw [f])
        rw [f] at e
        have e0 : elS 0 acc (S.drop p) false = (acc, S.drop p, false) := by simp [elS]
        rw [e0] at e
        exact (Prod.mk.inj e).1.symm
      have HEA : Hid (EntsAt wk.heap u4 acc) := (OwnRec.seq HOr.out (by omega)).at_.imp (fun _ _ _ e => e) fun _ _ _ x => IsEntT.at_ x
      clear HFR HE
      go_wp2_with fail
      refine Calls.mono (rmake19_any u4 acc wk HEA.out HSE.out) ?_
      rintro e wm ⟨rfl, hk⟩
      have HKM := Lib.hid (HKr.out.trans hk)
      have HEB := Lib.hid (EntsAt.keeps HEA.out hk)
      clear hk
      obtain ⟨X, hX⟩ : ∃ X, makeE acc = X := ⟨_, rfl⟩
      obtain ⟨TX, EX⟩ := X
      rw [hX]
      dsimp only
      by_cases hE : EX = 0
      · subst hE
        by_cases hT : TX = s
        · subst hT
          have HR : Hid (readP S = some acc) := by
            show _ = _
            rcases makeE_cases acc with ⟨a, _⟩ | ⟨a, _⟩ | ⟨a, b, c⟩
            · rw [hX] at a; have := (Prod.mk.inj a).2; omega
            · rw [hX] at a; have := (Prod.mk.inj a).2; omega
            · rw [hX] at a
              have e := (Prod.mk.inj a).1
              rw [← HSD.out] at e
              have e2 := strB_inj e
              exact readP_some.2 ⟨b, by rw [e2]; exact c, e2.symm⟩
          have q0 : (TX.toList == TX.toList) = true := by simp
          clear hX HFI
          go_wp2_with fail
          go_ret2
          exact ⟨HKM.out, .inr ⟨acc, u4, HR.out, rfl, HEB.out⟩⟩
        · have HN : Hid (readP S = none) := by
            show _ = _
            cases hr : readP S with
            | none => rfl
            | some l =>
              obtain rfl := HFI.out l hr
              obtain ⟨a, b, c⟩ := readP_some.1 hr
              exfalso
              apply hT
              have : makeE l = (strB S, 0) := by unfold makeE; rw [a, if_pos rfl, c, if_neg (by omega)]
              rw [hX] at this
              rw [(Prod.mk.inj this).1, HSD.out]
          have q0 : (TX.toList == s.toList) = false := by rw [txt_eq]; exact decide_eq_false hT
          clear hX HFI hT
          go_wp2_with fail
          go_ret2
          exact ⟨HKM.out, .inl ⟨HN.out, rfl⟩⟩
      · have HN : Hid (readP S = none) := by
          show _ = _
          cases hr : readP S with
          | none => rfl
          | some l =>
            obtain rfl := HFI.out l hr
            obtain ⟨a, b, c⟩ := readP_some.1 hr
            exfalso
            apply hE
            have : makeE l = (strB S, 0) := by unfold makeE; rw [a, if_pos rfl, c, if_neg (by omega)]
            rw [hX] at this
            exact (Prod.mk.inj this).2
        have q0 : (EX == 0) = false := beq_false_of_ne hE
        have q1 : decide (EX = 0) = false := decide_eq_false hE
        clear hX HFI
        go_wp2_with fail
        go_ret2
        exact ⟨HKM.out, .inl ⟨HN.out, rfl⟩⟩
end Go.Proofs.YtdpfanifagfciaaDoor
