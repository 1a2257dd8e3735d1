/- The walk of law16.back: the program's packs as the reference's, in memory of their own; what was handed in is spoilt. -/
import Derived.Test.YteandjophamipaaRSame
import Derived.Test.YteandjophamipaaAppFr
import Derived.Test.YteandjophamipaaStageF
namespace Go.Proofs.Yteandjophamipaa
open Go.RowKit
attribute [local go_sem ↓] Go.wp_at_zero Go.wp_at_succ
theorem elTextK : ElemTyK Try.prog 22 9 (.string ByteArray.empty) 1 16 := ⟨Try.underlying22, by kernel_rfl, rfl, by decide, by decide⟩
def textsV (l : List ByteArray) : List Value := l.map (.string ·)
theorem textsV_len (l : List ByteArray) : (textsV l).length = l.length := List.length_map _
theorem textsV_cells {w : World} {b off c n : Nat} {l : List ByteArray} (h : TextsAt w.heap (.slice (some ⟨b, off, none⟩) n c) l) : ∀ j (hj : j < (textsV l).length), w.cell? ⟨b, off + j, none⟩ = some (textsV l)[j] := fun j hj => by
  rw [textsV_len] at hj
  obtain ⟨u, h1, h2⟩ := seq_at h hj
  unfold IsText at h2
  rw [h1, h2]; simp [textsV]
theorem textsV_seq {w w' : World} {B m : Nat} {v : Value} {l : List ByteArray} (hB : B ≤ w.heap.size) (h : w'.ownsRow w.heap.size 9 1 v m (textsV l)) (hl : l.length ≤ 9223372036854775807) (hm : l.length = m) : SeqIn (fun b => B ≤ b) 9 IsText w'.heap v l := by
  subst hm
  have hx : OwnSeq w.heap.size 9 IsText w' v l := ⟨textsV l, by rw [textsV_len]; exact h, textsV_len l, fun i hi hi' => by show _ = _; simp [textsV]⟩
  exact (hx.seq hl).mono (fun b hb => Nat.le_trans hB hb) fun _ _ x => x
def placesV (l : List PlaceT) : List Value := (l.map fun p => [.string p.1, .int .i64 p.2.1, .int .i64 p.2.2]).flatten
theorem placesV_len (l : List PlaceT) : (placesV l).length = l.length * 3 := by
  unfold placesV
  rw [flat_length (k := 3) _ (fun i hi => by simp), List.length_map]
theorem placesV_at (l : List PlaceT) {i : Nat} (hi : i < l.length) {j : Nat} (hj : j < 3) : (placesV l)[i * 3 + j]? = ([.string l[i].1, .int .i64 l[i].2.1, .int .i64 l[i].2.2] : List Value)[j]? := by
  unfold placesV
  rw [flat_at (k := 3) _ (fun q hq => by simp) i j (by simpa using hi) (by simpa using hj)]
  simp only [List.getElem_map]
  rw [List.getElem?_eq_getElem]
theorem placesV_cells {w : World} {b off c n : Nat} {l : List PlaceT} (h : RecAt 3 IsPlace w.heap (.slice (some ⟨b, off, none⟩) n c) l) : ∀ j (hj : j < (placesV l).length), w.cell? ⟨b, off + j, none⟩ = some (placesV l)[j] := fun j hj => by
  have hj2 := hj
  rw [placesV_len] at hj2
  have hi : j / 3 < l.length := by omega
  have hr : j % 3 < 3 := by omega
  obtain ⟨us, h1, h2, h3⟩ := rec_at h hi
  unfold IsPlace at h3
  subst h3
  have h4 := h2 (j % 3) (by simpa using hr)
  have h5 := placesV_at l hi hr
  have e : j / 3 * 3 + j % 3 = j := by omega
  have e2 : off + j / 3 * 3 + j % 3 = off + j := by omega
  rw [e] at h5
  rw [e2] at h4
  rw [h4, ← List.getElem?_eq_getElem, ← List.getElem?_eq_getElem, h5]
theorem placesV_seq {w w' : World} {B m : Nat} {v : Value} {l : List PlaceT} (hB : B ≤ w.heap.size) (h : w'.ownsRow w.heap.size 54 3 v m (placesV l)) (hl : l.length ≤ 9223372036854775807) (hm : l.length = m) : RecIn (fun b => B ≤ b) 54 3 IsPlace w'.heap v l := by
  subst hm
  have hx : OwnRec w.heap.size 54 3 IsPlace w' v l := ⟨l.map fun (p : PlaceT) => [.string p.1, .int .i64 p.2.1, .int .i64 p.2.2], by rw [List.length_map]; exact h, List.length_map _, fun i hi hi' => ⟨by simp, by show _ = _; simp⟩⟩
  exact (hx.seq hl).mono (fun b hb => Nat.le_trans hB hb) fun _ _ x => x
/-- A pack whose texts have names. -/
def IsPk2 (S : Nat → Prop) (h : Array Obj) (us : List Value) (g : List ByteArray) (B D : ByteArray) : Prop :=
  ∃ c p, us = [.string B, .string D, c, p] ∧ SeqIn S 9 IsText h c (g.map dgT) ∧ RecIn S 54 3 IsPlace h p (placesP g)
theorem IsPk2.chg {S T : Nat → Prop} {w w' : World} {us : List Value} {g : List ByteArray} {B D : ByteArray} (h : IsPk2 S w.heap us g B D) (c : Chg T w w') (hs : ∀ b, b < w.heap.size → S b → typH w.heap b = some 9 ∨ typH w.heap b = some 54 → ¬ T b) : IsPk2 S w'.heap us g B D := by
  obtain ⟨a, p, e, h1, h2⟩ := h
  exact ⟨a, p, e, h1.chg c (fun b hb hs' ht => hs b hb hs' (.inl ht)) fun _ _ _ x => x, h2.chg c (fun b hb hs' ht => hs b hb hs' (.inr ht)) fun _ _ _ x => x⟩
theorem IsPk2.keeps {S : Nat → Prop} {w w' : World} {us : List Value} {g : List ByteArray} {B D : ByteArray} (h : IsPk2 S w.heap us g B D) (c : Keeps w w') : IsPk2 S w'.heap us g B D := h.chg (T := fun _ => False) (Kept.any c) fun _ _ _ _ x => x
theorem IsPk2.len {S : Nat → Prop} {h : Array Obj} {us : List Value} {g : List ByteArray} {B D : ByteArray} (k : IsPk2 S h us g B D) : us.length = 4 := by obtain ⟨_, _, rfl, _⟩ := k; rfl
theorem IsPk2.pack {S : Nat → Prop} {h : Array Obj} {us : List Value} {g : List ByteArray} {B D : ByteArray} (k : IsPk2 S h us g B D) (hB : strB (blobP g) = B) (hD : dgP g = D) : IsPack S h us g := by subst hB hD; exact k
/-- Blocks of texts and of places, from N on, below B. -/
def SpT (w : World) (N B : Nat) (b : Nat) : Prop := N ≤ b ∧ b < B ∧ (typH w.heap b = some 9 ∨ typH w.heap b = some 54)
theorem Chg.after {T T' : Nat → Prop} {a b c : World} (h : Chg T a b) (k : Chg T' b c) (ht : ∀ q, q < a.heap.size → T' q → T q) : Chg T a c :=
  ⟨k.1.trans h.1, k.2.1.trans h.2.1, k.2.2.1.trans h.2.2.1, Nat.le_trans h.size k.size, fun i hi hn => (k.2.2.2.2 i (Nat.lt_of_lt_of_le hi h.size) fun x => hn (ht i hi x)).trans (h.2.2.2.2 i hi hn)⟩
/-- The state of back: what is made, what is spoilt. -/
structure BkS (w wr : World) (N B : Nat) (vo : Value) (gs : List (List ByteArray)) : Prop where
  ou : OwnRec w.heap.size 46 4 (IsPack (w.heap.size ≤ ·) wr.heap) wr vo gs
  ch : Chg (SpT w N B) w wr
theorem BkS.store {w wr : World} {N B b i : Nat} {vo : Value} {gs : List (List ByteArray)} (h : BkS w wr N B vo gs) (hb : SpT w N B b) (hB : B ≤ w.heap.size) (u : Value) : BkS w (wr.setCell ⟨b, i, none⟩ u) N B vo gs := by
  have c := chg_set wr b i u
  have hlt : b < w.heap.size := Nat.lt_of_lt_of_le hb.2.1 hB
  exact ⟨h.ou.chg c (fun q hq _ _ e => by omega) fun a x _ k => IsPack.chg k c fun q _ hq _ e => by omega, h.ch.after c fun q _ e => by subst e; exact hb⟩
theorem BkS.grow {w wr : World} {N B B' : Nat} {vo : Value} {gs : List (List ByteArray)} (h : BkS w wr N B vo gs) (hB : B ≤ B') : BkS w wr N B' vo gs := ⟨h.ou, h.ch.mono fun _ _ x => ⟨x.1, Nat.lt_of_lt_of_le x.2.1 hB, x.2.2⟩⟩
theorem BkS.push {w wr w5 w6 : World} {N B0 : Nat} {v' : Value} {pv : Option Addr} {qv : Nat} {gs : List (List ByteArray)} {g : List ByteArray} {B D : ByteArray} {us : List (List Value)} {u : List Value} (h : Chg (SpT w N B0) w wr)
    (h0 : wr.ownsRow w.heap.size 46 4 (.slice pv us.length qv) us.length us.flatten) (h1 : us.length = gs.length) (h2 : ∀ i (h : i < us.length) (h' : i < gs.length), us[i].length = 4 ∧ IsPack (w.heap.size ≤ ·) wr.heap us[i] gs[i])
    (hx : Keeps wr w5) (h3 : w6.ownsRow w.heap.size 46 4 v' (us.length + 1) (us.flatten ++ u)) (hp : IsPk2 (fun b => wr.heap.size ≤ b) w5.heap u g B D) (hB : strB (blobP g) = B) (hD : dgP g = D)
    (hc0 : Chg (fun b => Value.ownBlock (.slice pv us.length qv) = some b) w5 w6) : BkS w w6 N B0 v' (gs ++ [g]) := by
  have hc : Chg (fun b => Value.ownBlock (.slice pv us.length qv) = some b) wr w6 := (Kept.any hx).trans hc0
  have hbu := own_blockK h0
  have hz := h.size
  refine ⟨OwnRec.push (R := IsPack (w.heap.size ≤ ·) wr.heap) h1 h2 h3 (fun a b _ x => ?_) hp.len ?_, h.after hc fun q hq e => ?_⟩
  · exact IsPack.chg x hc fun q _ _ ht => ht.elim (fun e => own_type h0 e (by decide)) fun e => own_type h0 e (by decide)
  · refine (IsPack.chg (hp.pack hB hD) hc0 fun q _ hq _ e => ?_).mono fun q hq => Nat.le_trans hz hq
    have := (hbu q e).2.1
    omega
  · have := (hbu q e).1; omega
theorem seqIn_cell {α : Type} {S : Nat → Prop} {E : TypeId} {R : Value → α → Prop} {w : World} {b off n c : Nat} {l : List α} (h : SeqIn S E R w.heap (.slice (some ⟨b, off, none⟩) n c) l) {i : Nat} (hi : i < l.length) : ∃ u, w.cell? ⟨b, off + i, none⟩ = some u ∧ w.frozen? ⟨b, off + i, none⟩ = false ∧ S b ∧ typH w.heap b = some E := by
  obtain ⟨a, cap, e, hl, hel⟩ := h
  injection e with e1 _ _
  obtain ⟨b', off', u, x1, ⟨x2, x3⟩, x4, x5, _⟩ := hel i hi
  rw [← e1] at x1
  simp only [Option.some.injEq, Addr.mk.injEq, and_true] at x1
  obtain ⟨rfl, rfl⟩ := x1
  exact ⟨u, by rw [cell_of]; exact x5, by rw [froz_of]; exact x4, x2, x3⟩
theorem recIn_cell {α : Type} {S : Nat → Prop} {E : TypeId} {k : Nat} {R : List Value → α → Prop} {w : World} {b off n c : Nat} {l : List α} (h : RecIn S E k R w.heap (.slice (some ⟨b, off, none⟩) n c) l) {i j : Nat} (hi : i < l.length) (hj : j < k) : ∃ u, w.cell? ⟨b, off + i * k + j, none⟩ = some u ∧ w.frozen? ⟨b, off + i * k + j, none⟩ = false ∧ S b ∧ typH w.heap b = some E := by
  obtain ⟨a, cap, e, hl, hel⟩ := h
  injection e with e1 _ _
  obtain ⟨b', off', us, x1, ⟨x2, x3⟩, x4, x5, _⟩ := hel i hi
  rw [← e1] at x1
  simp only [Option.some.injEq, Addr.mk.injEq, and_true] at x1
  obtain ⟨rfl, rfl⟩ := x1
  have := x5 j (by omega)
  exact ⟨_, by rw [cell_of]; exact this.2, by rw [froz_of]; exact this.1, x2, x3⟩
def pback5_I (w wr : World) (G : List ByteArray) (B D : ByteArray) (vo : Value) (n : Nat) (xs : List Value) : Nat → (Nat → Value) → World → Prop
  | 0, _, w1 => Keeps wr w1
  | 1, vs, w1 => ∃ (w5 : World) (u : List Value), Keeps wr w5 ∧ w1.ownsRow w.heap.size 46 4 (vs 27) (n + 1) (xs ++ u) ∧ IsPk2 (fun b => wr.heap.size ≤ b) w5.heap u G B D ∧ Chg (fun q => vo.ownBlock = some q) w5 w1
  | _, vs, w1 => ∃ (w5 : World) (u : List Value), Keeps wr w5 ∧ w1.ownsRow w.heap.size 46 4 (vs 28) (n + 1) (xs ++ u) ∧ IsPk2 (fun b => wr.heap.size ≤ b) w5.heap u G B D ∧ Chg (fun q => vo.ownBlock = some q) w5 w1
def pback5 (b o n q k : Nat) (pv : Option Addr) (m qv : Nat) (B D : ByteArray) (G : List ByteArray) (b1 o1 q1 b2 o2 q2 N0 : Nat) : Nat → Value → World → Prop
  | 11, v, _ => ∃ g, v = .slice (some ⟨g, 0, none⟩) 0 0
  | 18, v, _ => ∃ g, v = .slice (some ⟨g, 0, none⟩) 0 0
  | 17, v, w => SeqIn (fun b => N0 ≤ b) 9 IsText w.heap v (G.map dgT)
  | 24, v, w => RecIn (fun b => N0 ≤ b) 54 3 IsPlace w.heap v (placesP G)
  | 25, v, w => ∃ a1 c1 a2 c2, v = .agg #[.string B, .string D, .slice a1 G.length c1, .slice a2 G.length c2] ∧ IsPk2 (fun b => N0 ≤ b) w.heap [.string B, .string D, .slice a1 G.length c1, .slice a2 G.length c2] G B D
  | 26, v, w => ∃ g a1 c1 a2 c2, v = .slice (some ⟨g, 0, none⟩) 1 1 ∧ N0 ≤ g ∧ BlkAt w g 46 #[.string B, .string D, .slice a1 G.length c1, .slice a2 G.length c2] ∧ IsPk2 (fun b => N0 ≤ b) w.heap [.string B, .string D, .slice a1 G.length c1, .slice a2 G.length c2] G B D
  | 27, _, _ => True
  | 28, _, _ => True
  | i, v, _ => v = ([.slice pv m qv, .slice (some ⟨b, o, none⟩) n q, .int .i64 (k : Int), .pointer (some ⟨b, o + k * 4, none⟩), .pointer (some ⟨b, o + k * 4, none⟩), .string B, .slice (some ⟨b, o, none⟩) n q, .int .i64 (k : Int), .pointer (some ⟨b, o + k * 4, none⟩), .pointer (some ⟨b, o + k * 4 + 1, none⟩), .string D, undef, .slice (some ⟨b, o, none⟩) n q, .int .i64 (k : Int), .pointer (some ⟨b, o + k * 4, none⟩), .pointer (some ⟨b, o + k * 4 + 2, none⟩), .slice (some ⟨b1, o1, none⟩) G.length q1, undef, undef, .slice (some ⟨b, o, none⟩) n q, .int .i64 (k : Int), .pointer (some ⟨b, o + k * 4, none⟩), .pointer (some ⟨b, o + k * 4 + 3, none⟩), .slice (some ⟨b2, o2, none⟩) G.length q2, undef, undef, undef, undef, undef] : List Value).getD i undef
theorem pback5_chg {b o n q k : Nat} {pv : Option Addr} {m qv : Nat} {B D : ByteArray} {G : List ByteArray} {b1 o1 q1 b2 o2 q2 N0 : Nat} (i : Nat) (v : Value) (w w' : World) (c : Chg (fun b => b < N0) w w') (h : pback5 b o n q k pv m qv B D G b1 o1 q1 b2 o2 q2 N0 i v w) : pback5 b o n q k pv m qv B D G b1 o1 q1 b2 o2 q2 N0 i v w' := by
  match i, h with
  | 0, h => exact h
  | 1, h => exact h
  | 2, h => exact h
  | 3, h => exact h
  | 4, h => exact h
  | 5, h => exact h
  | 6, h => exact h
  | 7, h => exact h
  | 8, h => exact h
  | 9, h => exact h
  | 10, h => exact h
  | 11, h => exact h
  | 12, h => exact h
  | 13, h => exact h
  | 14, h => exact h
  | 15, h => exact h
  | 16, h => exact h
  | 17, h => exact SeqIn.chg h c (fun b _ hb _ => Nat.not_lt.2 hb) fun _ _ _ x => x
  | 18, h => exact h
  | 19, h => exact h
  | 20, h => exact h
  | 21, h => exact h
  | 22, h => exact h
  | 23, h => exact h
  | 24, h => exact RecIn.chg h c (fun b _ hb _ => Nat.not_lt.2 hb) fun _ _ _ x => x
  | 25, h => exact (let ⟨a1, c1, a2, c2, r, hp⟩ := h; ⟨a1, c1, a2, c2, r, hp.chg c fun b _ hb _ => Nat.not_lt.2 hb⟩)
  | 26, h => exact (let ⟨g, a1, c1, a2, c2, r, hg, gb, hp⟩ := h; ⟨g, a1, c1, a2, c2, r, hg, gb.chg c (Nat.not_lt.2 hg), hp.chg c fun b _ hb _ => Nat.not_lt.2 hb⟩)
  | 27, h => exact h
  | 28, h => exact h
  | _ + 29, h => exact h
set_option maxRecDepth 100000 in
set_option maxHeartbeats 4000000 in
theorem pback_any (v : Value) (gs : List (List ByteArray)) (w : World) (N H : Nat) (h : PacksIn N H 50 w.heap v gs) (hN : N ≤ H) (hH : H ≤ w.heap.size) (hl : gs.length ≤ 1000000) (hg : ∀ g ∈ gs, 0 < g.length ∧ g.length ≤ 1000000) :
    Calls Try.prog 32 #[v] w fun e w' => ∃ v', e = .returned v' ∧ PacksA w'.heap v' gs ∧ Chg (SpT w N H) w w' := by
  obtain ⟨ls, hls, hch, hr⟩ := h
  obtain ⟨p, q, rfl⟩ := rec_shape hr.at_
  have hll : ls.length = gs.length := by rw [← hls, List.length_map]
  have HLS := Lib.hid hls
  have HCH := Lib.hid hch
  have HR := Lib.hid hr
  have HLL := Lib.hid hll
  have HG := Lib.hid hg
  rw [hll]
  clear hls hch hr hll hg
  go_enter Try.func32, Try.ntmps32
  go_wp2_with fail
  go_loopw [3, 4] (fun vo i wr => ∃ (k B : Nat), k ≤ gs.length ∧ i = .int .i64 k ∧ N ≤ B ∧ B ≤ H ∧ Hid (∀ j (h : j < ls.length), k ≤ j → B ≤ ls[j].2.1) ∧ Hid (BkS w wr N B vo (gs.take k))) (fun _ i _ => gs.length - (intOf i).toNat)
  case atStart => exact ⟨0, N, by omega, rfl, Nat.le_refl _, hN, fun j hj _ => (HCH.out.1 _ (List.getElem_mem hj)).1, ⟨OwnRec.nil _ _ _ _ _, Chg.refl _ _⟩⟩
  case round =>
    obtain ⟨k, B0, hk, rfl, hNB, hBH, hBL, hS⟩ := hrel
    obtain ⟨us, hu1, hu2, hu3⟩ := hS.out.ou
    obtain ⟨pv, qv, rfl⟩ := own_sliceK hu1
    have hul : us.length = k := by rw [hu2, List.length_take]; omega
    have HUO := Lib.hid hu1
    have HL2 := Lib.hid hu2
    have HL3 := Lib.hid hul
    have H3 := Lib.hid hu3
    have HSZ : Hid (w.heap.size ≤ wr.heap.size) := hS.out.ch.size
    clear hu1 hu2 hu3 hul
    by_cases hlt : k < gs.length
    · have hlt64 : (k : Int) < (gs.length : Int) := by omega
      have hk0 : (0 : Int) ≤ (k : Int) := by omega
      have hkl : k < ls.length := by rw [HLL.out]; exact hlt
      obtain ⟨a0, cap0, e5, _, hel⟩ := HR.out
      obtain ⟨b, o, cells, e9, ⟨_, htb⟩, hus, hc, hp⟩ := hel k hkl
      injection e5 with e6 e7 e8
      subst e6 e8 e9
      have hgk : grp gs k = ls[k].1 := by rw [grp_get hlt]; simp only [← HLS.out, List.getElem_map]
      have hbd := HCH.out.1 ls[k] (List.getElem_mem hkl)
      have hBk := hBL.out k hkl (Nat.le_refl _)
      have HBL2 : Hid (∀ j (h : j < ls.length), k + 1 ≤ j → ls[k].2.2 ≤ ls[j].2.1) := fun j hj hkj => List.pairwise_iff_getElem.1 HCH.out.2 k j hkl hj (by omega)
      have hp1 : IsPack (fun b => ls[k].2.1 ≤ b ∧ b < ls[k].2.2) w.heap cells (grp gs k) := by rw [hgk]; exact hp
      obtain ⟨hg0, hg1⟩ := HG.out _ (grp_mem hlt)
      have HTK : Hid (gs.take (k + 1) = gs.take k ++ [grp gs k]) := by show _ = _; rw [grp_get hlt]; exact (List.take_append_getElem hlt).symm
      clear hp hgk hel
      generalize ls[k].2.1 = lo at *
      generalize ls[k].2.2 = hi at *
      obtain ⟨cc, pp, rfl, ht, hq⟩ := hp1
      generalize grp gs k = G at *
      obtain ⟨b1, o1, q1, u1, rfl, _, _⟩ := seq_cell (SeqIn.at_ ht) (i := 0) (by rw [List.length_map]; exact hg0)
      obtain ⟨b2, o2, q2, u2, rfl, _, _, _⟩ := rec_cell hq.at_ (i := 0) (by rw [places_length]; exact hg0)
      rw [List.length_map] at ht hc
      rw [places_length] at hq hc
      obtain ⟨_, _, _, hs1, ht1⟩ := seqIn_cell ht (i := 0) (by rw [List.length_map]; exact hg0)
      obtain ⟨_, _, _, hs2, ht2⟩ := recIn_cell hq (i := 0) (j := 0) (by rw [places_length]; exact hg0) (by decide)
      have HSP1 : Hid (SpT w N hi b1) := ⟨by omega, hs1.2, .inl ht1⟩
      have HSP2 : Hid (SpT w N hi b2) := ⟨by omega, hs2.2, .inr ht2⟩
      have hlohi : lo < hi := Nat.lt_of_le_of_lt hs1.1 hs1.2
      have HK : Hid (∀ (wz : World) (B : Nat), Chg (SpT w N B) w wz → ∀ j (hj : j < 4), wz.cell? ⟨b, o + k * 4 + j, none⟩ = some (([.string (strB (blobP G)), .string (dgP G), .slice (some ⟨b1, o1, none⟩) G.length q1, .slice (some ⟨b2, o2, none⟩) G.length q2] : List Value)[j]'hj)) := fun wz B hz j hj => by
        rw [cell_of]
        exact cellH_chg hz (hc j hj).2 fun x => by
          have h3 := x.2.2
          rw [htb] at h3
          exact h3.elim (fun e => absurd (Option.some.inj e) ne_ps) fun e => absurd (Option.some.inj e) ne_pp
      have HT : Hid (SeqIn (fun b => lo ≤ b ∧ b < hi) 9 IsText wr.heap (.slice (some ⟨b1, o1, none⟩) G.length q1) (G.map dgT)) := SeqIn.chg ht hS.out.ch (fun q _ hs _ x => by have := x.2.1; have := hs.1; omega) fun _ _ _ x => x
      have HQ : Hid (RecIn (fun b => lo ≤ b ∧ b < hi) 54 3 IsPlace wr.heap (.slice (some ⟨b2, o2, none⟩) G.length q2) (placesP G)) := RecIn.chg hq hS.out.ch (fun q _ hs _ x => by have := x.2.1; have := hs.1; omega) fun _ _ _ x => x
      have TA : Hid (TextsAt wr.heap (.slice (some ⟨b1, o1, none⟩) G.length q1) (G.map dgT)) := SeqIn.at_ HT.out
      have TP : Hid (RecAt 3 IsPlace wr.heap (.slice (some ⟨b2, o2, none⟩) G.length q2) (placesP G)) := HQ.out.at_
      have HPOS := Lib.hid hg0
      have HBD := Lib.hid hg1
      have HLT : Hid (∀ b, Value.ownBlock (.slice pv us.length qv) = some b → b < wr.heap.size) := fun b hb => (own_blockK HUO.out b hb).2.1
      have K0 : Hid (wr.cell? ⟨b, o + k * 4, none⟩ = some (.string (strB (blobP G)))) := HK.out wr B0 hS.out.ch 0 (by decide)
      have K1 : Hid (wr.cell? ⟨b, o + k * 4 + 1, none⟩ = some (.string (dgP G))) := HK.out wr B0 hS.out.ch 1 (by decide)
      have K2 : Hid (wr.cell? ⟨b, o + k * 4 + 2, none⟩ = some (.slice (some ⟨b1, o1, none⟩) G.length q1)) := HK.out wr B0 hS.out.ch 2 (by decide)
      have K3 : Hid (wr.cell? ⟨b, o + k * 4 + 3, none⟩ = some (.slice (some ⟨b2, o2, none⟩) G.length q2)) := HK.out wr B0 hS.out.ch 3 (by decide)
      have HK2 : Hid (∀ wz : World, Chg (SpT w N hi) w wz → wz.cell? ⟨b, o + k * 4 + 2, none⟩ = some (.slice (some ⟨b1, o1, none⟩) G.length q1)) := fun wz hz => HK.out wz hi hz 2 (by decide)
      have HK3 : Hid (∀ wz : World, Chg (SpT w N hi) w wz → wz.cell? ⟨b, o + k * 4 + 3, none⟩ = some (.slice (some ⟨b2, o2, none⟩) G.length q2)) := fun wz hz => HK.out wz hi hz 3 (by decide)
      clear ht hq hs1 hs2 ht1 ht2 hc htb HK hus
      generalize hB : strB (blobP G) = B at *
      generalize hD : dgP G = D at *
      have HBB := Lib.hid hB
      have HDD := Lib.hid hD
      clear hB hD
      go_wp2_with fail
      refine wp_region_stage [13, 14, 15, 16, 17, 18, 19, 20, 21, 22, 23, 24, 25, 26, 27, 28, 29, 30, 31, 32, 33, 34, 35, 36, 37, 38, 39, 40, 3] [[], [], [], [1, 2], [3], [4], [], [], [6, 7], [8], [9], [], [], [], [12, 13], [14], [15], [11, 16], [], [], [], [19, 20], [21], [22], [18, 23], [5, 10, 17, 24], [25], [0, 26], [27]] [27, 28] [0, 0, 0, 0, 0, 0, 0, 0, 0, 0, 0, 0, 0, 0, 0, 0, 0, 0, 0, 0, 0, 0, 0, 0, 0, 0, 0, 0, 1] [] (pback5 b o gs.length q k pv us.length qv B D G b1 o1 q1 b2 o2 q2 wr.heap.size) (fun w w' => Chg (fun b => b < wr.heap.size) w w') (pback5_I w wr G B D (.slice pv us.length qv) us.length us.flatten) (by kernel_rfl) (by kernel_rfl) (by kernel_rfl) (by kernel_rfl) (by kernel_rfl) (by kernel_rfl) (by kernel_rfl) ?_ ?_ ?_ ?_ ?_ ?_ ?_
      · exact fun i v w w' c h => pback5_chg i v w w' c h
      · exact fun w => Chg.refl _ w
      · exact fun i s vs w h => by cases h
      · refine ⟨?_, ?_, ?_, ?_, ?_, ?_, ?_, ?_, ?_, ?_, ?_, ?_, ?_, ?_, ?_, ?_, ?_, ?_, ?_, ?_, ?_, ?_, ?_, ?_, ?_, ?_, ?_, ?_, ?_, trivial⟩
        · exact fun g b h => by (cases h)
        · exact fun g b h => by (cases h)
        · exact fun g b h => by (cases h)
        · exact fun g b h => by (cases h)
        · exact fun g b h => by (cases h)
        · exact fun g b h => by (cases h)
        · exact fun g b h => by (cases h)
        · exact fun g b h => by (cases h)
        · exact fun g b h => by (cases h)
        · exact fun g b h => by (cases h)
        · exact fun g b h => by (cases h)
        · exact fun g b h => by (cases h)
        · exact fun g b h => by (cases h)
        · exact fun g b h => by (cases h)
        · exact fun g b h => by (cases h)
        · exact fun g b h => by (cases h)
        · exact fun g b h => by (cases h)
        · exact fun g b h => by (cases h)
        · exact fun g b h => by (cases h)
        · exact fun g b h => by (cases h)
        · exact fun g b h => by (cases h)
        · exact fun g b h => by (cases h)
        · exact fun g b h => by (cases h)
        · exact fun g b h => by (cases h)
        · exact fun g b h => by (cases h)
        · exact fun g b h => by (cases h)
        · exact fun g b h => by (cases h)
        · exact fun g b h => by (cases h)
        · exact fun g b h => by (cases h)
      · exact fun _ _ => keeps_refl wr
      · refine ⟨?_, ?_, ?_, ?_, ?_, ?_, ?_, ?_, ?_, ?_, ?_, ?_, ?_, ?_, ?_, ?_, ?_, ?_, ?_, ?_, ?_, ?_, ?_, ?_, ?_, ?_, ?_, ?_, ?_, trivial⟩
        · intro _ a w1 vs hI ho hn hu K hK
          have e3 : a.tmps[3]? = some (.slice pv us.length qv) := hu 28 (by decide) (by decide)
          clear hn ho hu
          have hI : Keeps wr w1 := hI
          go_simp
          exact hK _ _ (Chg.refl _ _) hI rfl
        · intro _ a w1 vs hI ho hn hu K hK
          have e0 : a.tmps[0]? = some (.slice (some ⟨b, o, none⟩) gs.length q) := ho 0 rfl
          clear hn ho hu
          have hI : Keeps wr w1 := hI
          go_simp
          exact hK _ _ (Chg.refl _ _) hI rfl
        · intro _ a w1 vs hI ho hn hu K hK
          have e4 : a.tmps[4]? = some (.int .i64 (k : Int)) := ho 4 rfl
          clear hn ho hu
          have hI : Keeps wr w1 := hI
          go_simp
          exact hK _ _ (Chg.refl _ _) hI rfl
        · intro _ a w1 vs hI ho hn hu K hK
          obtain ⟨e14, g14⟩ : a.tmps[14]? = some (vs 1) ∧ vs 1 = .slice (some ⟨b, o, none⟩) gs.length q := hn 1 (by decide)
          rw [g14] at e14
          clear g14
          obtain ⟨e15, g15⟩ : a.tmps[15]? = some (vs 2) ∧ vs 2 = .int .i64 (k : Int) := hn 2 (by decide)
          rw [g15] at e15
          clear g15
          clear hn ho hu
          have hI : Keeps wr w1 := hI
          go_simp
          exact hK _ _ (Chg.refl _ _) hI rfl
        · intro _ a w1 vs hI ho hn hu K hK
          obtain ⟨e16, g16⟩ : a.tmps[16]? = some (vs 3) ∧ vs 3 = .pointer (some ⟨b, o + k * 4, none⟩) := hn 3 (by decide)
          rw [g16] at e16
          clear g16
          clear hn ho hu
          have hI : Keeps wr w1 := hI
          go_simp
          exact hK _ _ (Chg.refl _ _) hI rfl
        · intro _ a w1 vs hI ho hn hu K hK
          obtain ⟨e17, g17⟩ : a.tmps[17]? = some (vs 4) ∧ vs 4 = .pointer (some ⟨b, o + k * 4, none⟩) := hn 4 (by decide)
          rw [g17] at e17
          clear g17
          clear hn ho hu
          have hI : Keeps wr w1 := hI
          have c := keeps_cell hI K0.out
          go_simp
          exact hK _ _ (Chg.refl _ _) hI rfl
        · intro _ a w1 vs hI ho hn hu K hK
          have e0 : a.tmps[0]? = some (.slice (some ⟨b, o, none⟩) gs.length q) := ho 0 rfl
          clear hn ho hu
          have hI : Keeps wr w1 := hI
          go_simp
          exact hK _ _ (Chg.refl _ _) hI rfl
        · intro _ a w1 vs hI ho hn hu K hK
          have e4 : a.tmps[4]? = some (.int .i64 (k : Int)) := ho 4 rfl
          clear hn ho hu
          have hI : Keeps wr w1 := hI
          go_simp
          exact hK _ _ (Chg.refl _ _) hI rfl
        · intro _ a w1 vs hI ho hn hu K hK
          obtain ⟨e19, g19⟩ : a.tmps[19]? = some (vs 6) ∧ vs 6 = .slice (some ⟨b, o, none⟩) gs.length q := hn 6 (by decide)
          rw [g19] at e19
          clear g19
          obtain ⟨e20, g20⟩ : a.tmps[20]? = some (vs 7) ∧ vs 7 = .int .i64 (k : Int) := hn 7 (by decide)
          rw [g20] at e20
          clear g20
          clear hn ho hu
          have hI : Keeps wr w1 := hI
          go_simp
          exact hK _ _ (Chg.refl _ _) hI rfl
        · intro _ a w1 vs hI ho hn hu K hK
          obtain ⟨e21, g21⟩ : a.tmps[21]? = some (vs 8) ∧ vs 8 = .pointer (some ⟨b, o + k * 4, none⟩) := hn 8 (by decide)
          rw [g21] at e21
          clear g21
          clear hn ho hu
          have hI : Keeps wr w1 := hI
          go_simp
          exact hK _ _ (Chg.refl _ _) hI rfl
        · intro _ a w1 vs hI ho hn hu K hK
          obtain ⟨e22, g22⟩ : a.tmps[22]? = some (vs 9) ∧ vs 9 = .pointer (some ⟨b, o + k * 4 + 1, none⟩) := hn 9 (by decide)
          rw [g22] at e22
          clear g22
          clear hn ho hu
          have hI : Keeps wr w1 := hI
          have c := keeps_cell hI K1.out
          go_simp
          exact hK _ _ (Chg.refl _ _) hI rfl
        · intro _ a w1 vs hI ho hn hu K hK
          clear hn ho hu
          have hI : Keeps wr w1 := hI
          go_simp
          exact hK _ _ (Kept.any (kal _ _)) (Keeps.trans hI (kal _ _)) ⟨_, rfl⟩
        · intro _ a w1 vs hI ho hn hu K hK
          have e0 : a.tmps[0]? = some (.slice (some ⟨b, o, none⟩) gs.length q) := ho 0 rfl
          clear hn ho hu
          have hI : Keeps wr w1 := hI
          go_simp
          exact hK _ _ (Chg.refl _ _) hI rfl
        · intro _ a w1 vs hI ho hn hu K hK
          have e4 : a.tmps[4]? = some (.int .i64 (k : Int)) := ho 4 rfl
          clear hn ho hu
          have hI : Keeps wr w1 := hI
          go_simp
          exact hK _ _ (Chg.refl _ _) hI rfl
        · intro _ a w1 vs hI ho hn hu K hK
          obtain ⟨e25, g25⟩ : a.tmps[25]? = some (vs 12) ∧ vs 12 = .slice (some ⟨b, o, none⟩) gs.length q := hn 12 (by decide)
          rw [g25] at e25
          clear g25
          obtain ⟨e26, g26⟩ : a.tmps[26]? = some (vs 13) ∧ vs 13 = .int .i64 (k : Int) := hn 13 (by decide)
          rw [g26] at e26
          clear g26
          clear hn ho hu
          have hI : Keeps wr w1 := hI
          go_simp
          exact hK _ _ (Chg.refl _ _) hI rfl
        · intro _ a w1 vs hI ho hn hu K hK
          obtain ⟨e27, g27⟩ : a.tmps[27]? = some (vs 14) ∧ vs 14 = .pointer (some ⟨b, o + k * 4, none⟩) := hn 14 (by decide)
          rw [g27] at e27
          clear g27
          clear hn ho hu
          have hI : Keeps wr w1 := hI
          go_simp
          exact hK _ _ (Chg.refl _ _) hI rfl
        · intro _ a w1 vs hI ho hn hu K hK
          obtain ⟨e28, g28⟩ : a.tmps[28]? = some (vs 15) ∧ vs 15 = .pointer (some ⟨b, o + k * 4 + 2, none⟩) := hn 15 (by decide)
          rw [g28] at e28
          clear g28
          clear hn ho hu
          have hI : Keeps wr w1 := hI
          have c := keeps_cell hI K2.out
          go_simp
          exact hK _ _ (Chg.refl _ _) hI rfl
        · intro _ a w1 vs hI ho hn hu K hK
          obtain ⟨e24, g24⟩ : a.tmps[24]? = some (vs 11) ∧ ∃ g, (vs 11) = .slice (some ⟨g, 0, none⟩) 0 0 := hn 11 (by decide)
          obtain ⟨e29, g29⟩ : a.tmps[29]? = some (vs 16) ∧ vs 16 = .slice (some ⟨b1, o1, none⟩) G.length q1 := hn 16 (by decide)
          rw [g29] at e29
          clear g29
          clear hn ho hu
          have hI : Keeps wr w1 := hI
          obtain ⟨g, r⟩ := g24
          rw [r] at e24
          refine oper_fresh elTextK rfl (.tmp 24) (.tmp 29) rfl g (by simp [Act.eval, e24]) b1 o1 G.length q1 (textsV (G.map dgT)) (by simp [Act.eval, e29]) (by rw [textsV_len, List.length_map, Nat.mul_one]) HPOS.out (textsV_cells (SeqAt.keeps TA.out hI)) (by have := HBD.out; omega) ?_
          intro v' w' ho hk
          exact hK v' w' (Kept.any hk) (Keeps.trans hI hk) (textsV_seq (Kept.size hI) ho (by rw [List.length_map]; have := HBD.out; omega) (List.length_map _))
        · intro _ a w1 vs hI ho hn hu K hK
          clear hn ho hu
          have hI : Keeps wr w1 := hI
          go_simp
          exact hK _ _ (Kept.any (kal _ _)) (Keeps.trans hI (kal _ _)) ⟨_, rfl⟩
        · intro _ a w1 vs hI ho hn hu K hK
          have e0 : a.tmps[0]? = some (.slice (some ⟨b, o, none⟩) gs.length q) := ho 0 rfl
          clear hn ho hu
          have hI : Keeps wr w1 := hI
          go_simp
          exact hK _ _ (Chg.refl _ _) hI rfl
        · intro _ a w1 vs hI ho hn hu K hK
          have e4 : a.tmps[4]? = some (.int .i64 (k : Int)) := ho 4 rfl
          clear hn ho hu
          have hI : Keeps wr w1 := hI
          go_simp
          exact hK _ _ (Chg.refl _ _) hI rfl
        · intro _ a w1 vs hI ho hn hu K hK
          obtain ⟨e32, g32⟩ : a.tmps[32]? = some (vs 19) ∧ vs 19 = .slice (some ⟨b, o, none⟩) gs.length q := hn 19 (by decide)
          rw [g32] at e32
          clear g32
          obtain ⟨e33, g33⟩ : a.tmps[33]? = some (vs 20) ∧ vs 20 = .int .i64 (k : Int) := hn 20 (by decide)
          rw [g33] at e33
          clear g33
          clear hn ho hu
          have hI : Keeps wr w1 := hI
          go_simp
          exact hK _ _ (Chg.refl _ _) hI rfl
        · intro _ a w1 vs hI ho hn hu K hK
          obtain ⟨e34, g34⟩ : a.tmps[34]? = some (vs 21) ∧ vs 21 = .pointer (some ⟨b, o + k * 4, none⟩) := hn 21 (by decide)
          rw [g34] at e34
          clear g34
          clear hn ho hu
          have hI : Keeps wr w1 := hI
          go_simp
          exact hK _ _ (Chg.refl _ _) hI rfl
        · intro _ a w1 vs hI ho hn hu K hK
          obtain ⟨e35, g35⟩ : a.tmps[35]? = some (vs 22) ∧ vs 22 = .pointer (some ⟨b, o + k * 4 + 3, none⟩) := hn 22 (by decide)
          rw [g35] at e35
          clear g35
          clear hn ho hu
          have hI : Keeps wr w1 := hI
          have c := keeps_cell hI K3.out
          go_simp
          exact hK _ _ (Chg.refl _ _) hI rfl
        · intro _ a w1 vs hI ho hn hu K hK
          obtain ⟨e31, g31⟩ : a.tmps[31]? = some (vs 18) ∧ ∃ g, (vs 18) = .slice (some ⟨g, 0, none⟩) 0 0 := hn 18 (by decide)
          obtain ⟨e36, g36⟩ : a.tmps[36]? = some (vs 23) ∧ vs 23 = .slice (some ⟨b2, o2, none⟩) G.length q2 := hn 23 (by decide)
          rw [g36] at e36
          clear g36
          clear hn ho hu
          have hI : Keeps wr w1 := hI
          obtain ⟨g, r⟩ := g31
          rw [r] at e31
          refine oper_fresh elPlace rfl (.tmp 31) (.tmp 36) rfl g (by simp [Act.eval, e31]) b2 o2 G.length q2 (placesV (placesP G)) (by simp [Act.eval, e36]) (by rw [placesV_len, places_length]) HPOS.out (placesV_cells (RecAt.keeps TP.out hI)) (by have := HBD.out; omega) ?_
          intro v' w' ho hk
          exact hK v' w' (Kept.any hk) (Keeps.trans hI hk) (placesV_seq (Kept.size hI) ho (by rw [places_length]; have := HBD.out; omega) (places_length _))
        · intro _ a w1 vs hI ho hn hu K hK
          obtain ⟨e18, g18⟩ : a.tmps[18]? = some (vs 5) ∧ vs 5 = .string B := hn 5 (by decide)
          rw [g18] at e18
          clear g18
          obtain ⟨e23, g23⟩ : a.tmps[23]? = some (vs 10) ∧ vs 10 = .string D := hn 10 (by decide)
          rw [g23] at e23
          clear g23
          obtain ⟨e30, g30⟩ : a.tmps[30]? = some (vs 17) ∧ SeqIn (fun b => wr.heap.size ≤ b) 9 IsText w1.heap (vs 17) (G.map dgT) := hn 17 (by decide)
          obtain ⟨e37, g37⟩ : a.tmps[37]? = some (vs 24) ∧ RecIn (fun b => wr.heap.size ≤ b) 54 3 IsPlace w1.heap (vs 24) (placesP G) := hn 24 (by decide)
          clear hn ho hu
          have hI : Keeps wr w1 := hI
          obtain ⟨a1, c1, r1⟩ := seq_shape (SeqIn.at_ g30)
          obtain ⟨a2, c2, r2⟩ := rec_shape g37.at_
          rw [List.length_map] at r1
          rw [places_length] at r2
          rw [r1] at e30 g30
          rw [r2] at e37 g37
          go_simp
          exact hK _ _ (Chg.refl _ _) hI ⟨a1, c1, a2, c2, rfl, _, _, rfl, g30, g37⟩
        · intro _ a w1 vs hI ho hn hu K hK
          obtain ⟨e38, g38⟩ : a.tmps[38]? = some (vs 25) ∧ ∃ a1 c1 a2 c2, (vs 25) = .agg #[.string B, .string D, .slice a1 G.length c1, .slice a2 G.length c2] ∧ IsPk2 (fun b => wr.heap.size ≤ b) w1.heap [.string B, .string D, .slice a1 G.length c1, .slice a2 G.length c2] G B D := hn 25 (by decide)
          clear hn ho hu
          have hI : Keeps wr w1 := hI
          obtain ⟨a1, c1, a2, c2, r, hp⟩ := g38
          rw [r] at e38
          go_simp
          exact hK _ _ (Kept.any (kal _ _)) (Keeps.trans hI (kal _ _)) ⟨_, a1, c1, a2, c2, rfl, Kept.size hI, BlkAt.new _ _ _, hp.keeps (kal _ _)⟩
        · intro _ a w1 vs hI ho hn hu K hK
          obtain ⟨e13, g13⟩ : a.tmps[13]? = some (vs 0) ∧ vs 0 = .slice pv us.length qv := hn 0 (by decide)
          rw [g13] at e13
          clear g13
          obtain ⟨e39, g39⟩ : a.tmps[39]? = some (vs 26) ∧ ∃ g a1 c1 a2 c2, (vs 26) = .slice (some ⟨g, 0, none⟩) 1 1 ∧ wr.heap.size ≤ g ∧ BlkAt w1 g 46 #[.string B, .string D, .slice a1 G.length c1, .slice a2 G.length c2] ∧ IsPk2 (fun b => wr.heap.size ≤ b) w1.heap [.string B, .string D, .slice a1 G.length c1, .slice a2 G.length c2] G B D := hn 26 (by decide)
          clear hn ho hu
          have hI : Keeps wr w1 := hI
          obtain ⟨g, a1, c1, a2, c2, r, hg, gb, hp⟩ := g39
          rw [r] at e39
          refine oper_appr1 elRPack rfl (.tmp 13) (.tmp 39) rfl w.heap.size (.slice pv us.length qv) us.length us.flatten (by simp [Act.eval, e13]) (owns_chgK (T := fun _ => False) HUO.out (Kept.any hI) fun _ _ x => x) g [.string B, .string D, .slice a1 G.length c1, .slice a2 G.length c2] (by simp [Act.eval, e39]) rfl (blk_cells gb) (by intro y hy; simp at hy; rcases hy with rfl | rfl | rfl | rfl <;> rfl) (by have := HL3.out; omega) (Nat.le_trans HSZ.out (Kept.size hI)) ?_
          intro v' w' ho hc
          exact hK v' w' (hc.mono fun b _ hb => HLT.out b hb) ⟨w1, _, hI, by rw [upd_self]; exact ho, hp, hc⟩ trivial
        · intro _ a w1 vs hI ho hn hu K hK
          obtain ⟨e40, g40⟩ : a.tmps[40]? = some (vs 27) ∧ True := hn 27 (by decide)
          clear hn ho hu
          have hI : ∃ (w5 : World) (u : List Value), Keeps wr w5 ∧ w1.ownsRow w.heap.size 46 4 (vs 27) (us.length + 1) (us.flatten ++ u) ∧ IsPk2 (fun b => wr.heap.size ≤ b) w5.heap u G B D ∧ Chg (fun q => Value.ownBlock (.slice pv us.length qv) = some q) w5 w1 := hI
          obtain ⟨w5, u, h5, ho, hp, hc⟩ := hI
          go_simp
          exact hK _ _ (Chg.refl _ _) ⟨w5, u, h5, by rw [upd_self]; exact ho, hp, hc⟩ trivial
      · intro vs wE hI hG
        obtain ⟨w5, u5, h5, ho, hp, hc⟩ : ∃ (w5 : World) (u : List Value), Keeps wr w5 ∧ wE.ownsRow w.heap.size 46 4 (vs 28) (us.length + 1) (us.flatten ++ u) ∧ IsPk2 (fun b => wr.heap.size ≤ b) w5.heap u G B D ∧ Chg (fun q => Value.ownBlock (.slice pv us.length qv) = some q) w5 wE := hI
        clear hG
        simp only [setAll, Nat.zero_add, Nat.reduceAdd, List.setIfInBounds_toArray, List.set_cons_zero, List.set_cons_succ]
        generalize vs 0 = y0 at *
        generalize vs 1 = y1 at *
        generalize vs 2 = y2 at *
        generalize vs 3 = y3 at *
        generalize vs 4 = y4 at *
        generalize vs 5 = y5 at *
        generalize vs 6 = y6 at *
        generalize vs 7 = y7 at *
        generalize vs 8 = y8 at *
        generalize vs 9 = y9 at *
        generalize vs 10 = y10 at *
        generalize vs 11 = y11 at *
        generalize vs 12 = y12 at *
        generalize vs 13 = y13 at *
        generalize vs 14 = y14 at *
        generalize vs 15 = y15 at *
        generalize vs 16 = y16 at *
        generalize vs 17 = y17 at *
        generalize vs 18 = y18 at *
        generalize vs 19 = y19 at *
        generalize vs 20 = y20 at *
        generalize vs 21 = y21 at *
        generalize vs 22 = y22 at *
        generalize vs 23 = y23 at *
        generalize vs 24 = y24 at *
        generalize vs 25 = y25 at *
        generalize vs 26 = y26 at *
        generalize vs 27 = y27 at *
        generalize vs 28 = y28 at *
        have hcc : Chg (fun q => Value.ownBlock (.slice pv us.length qv) = some q) wr wE := (Kept.any h5).trans hc
        have HS6 : Hid (BkS w wE N hi y28 (gs.take k ++ [G])) := (BkS.push hS.out.ch HUO.out HL2.out H3.out h5 ho hp HBB.out HDD.out hc).grow (by omega)
        have HXE := Lib.hid (SeqIn.blank (HT.out.chg hcc (fun b _ _ ht => own_type HUO.out ht (by decide)) fun _ _ _ x => x))
        have HYE := Lib.hid (RecIn.blank (HQ.out.chg hcc (fun b _ _ ht => own_type HUO.out ht (by decide)) fun _ _ _ x => x))
        clear h5 ho hp hc hcc hS HUO HL2 HL3 H3 HT HQ TA TP K0 K1 K2 K3 HLT
        go_wp2_with fail
        go_loopw [5] (fun i wz => ∃ t : Nat, t ≤ G.length ∧ i = .int .i64 t ∧ Hid (BkS w wz N hi y28 (gs.take k ++ [G])) ∧ Hid (SeqIn (fun b => lo ≤ b ∧ b < hi) 9 (fun _ _ => True) wz.heap (.slice (some ⟨b1, o1, none⟩) G.length q1) (G.map dgT)) ∧ Hid (RecIn (fun b => lo ≤ b ∧ b < hi) 54 3 (fun _ _ => True) wz.heap (.slice (some ⟨b2, o2, none⟩) G.length q2) (placesP G))) (fun i _ => G.length - (intOf i).toNat)
        case atStart => exact ⟨0, by omega, rfl, HS6, HXE, HYE⟩
        case round =>
          clear HS6 HXE HYE
          obtain ⟨t, ht, rfl, hS, hX, hY⟩ := hrel
          by_cases htl : t < G.length
          · as_aux_lemma =>
            have ht64 : (t : Int) < (G.length : Int) := by omega
            have ht0 : (0 : Int) ≤ (t : Int) := by omega
            obtain ⟨u, d1, f1, _, _⟩ := seqIn_cell hX.out (i := t) (by rw [List.length_map]; exact htl)
            have k2 := HK2.out _ hS.out.ch
            have HD1 := Lib.hid d1
            go_wp2
            exact ⟨⟨t + 1, by omega, by go_num, hS.out.store HSP1.out (by omega) _, SeqIn.store hX.out HD1.out _, RecIn.store hY.out HD1.out _⟩, by simp [intOf]; omega⟩
          · as_aux_lemma =>
            obtain rfl : t = G.length := by omega
            have k2 := HK2.out _ hS.out.ch
            go_wp2_with fail
            clear k2
            go_loopw [6] (fun i wz => ∃ t : Nat, t ≤ G.length ∧ i = .int .i64 t ∧ Hid (BkS w wz N hi y28 (gs.take k ++ [G])) ∧ Hid (RecIn (fun b => lo ≤ b ∧ b < hi) 54 3 (fun _ _ => True) wz.heap (.slice (some ⟨b2, o2, none⟩) G.length q2) (placesP G))) (fun i _ => G.length - (intOf i).toNat)
            case atStart => exact ⟨0, by omega, rfl, hS, hY⟩
            case round =>
              clear hS hX hY
              obtain ⟨t, ht, rfl, hS, hY⟩ := hrel
              have k3 := HK3.out _ hS.out.ch
              by_cases htl : t < G.length
              · have ht64 : (t : Int) < (G.length : Int) := by omega
                have ht0 : (0 : Int) ≤ (t : Int) := by omega
                obtain ⟨u, d1, f1, _, _⟩ := recIn_cell hY.out (i := t) (j := 1) (by rw [places_length]; exact htl) (by decide)
                have HD1 := Lib.hid d1
                go_wp2
                exact ⟨⟨t + 1, by omega, by go_num, hS.out.store HSP2.out (by omega) _, RecIn.store hY.out HD1.out _⟩, by simp [intOf]; omega⟩
              · obtain rfl : t = G.length := by omega
                go_wp2
                exact ⟨⟨k + 1, hi, by omega, by go_num, by omega, by omega, HBL2, by rw [HTK.out]; exact hS⟩, by simp [intOf]; omega⟩
    · obtain rfl : k = gs.length := by omega
      have HE := Lib.hid hS.out.ou
      have HC := Lib.hid hS.out.ch
      clear hS HUO HL2 HL3 H3
      go_wp2
      go_ret
      refine ⟨_, rfl, ?_, HC.out.mono fun _ _ x => ⟨x.1, Nat.lt_of_lt_of_le x.2.1 hBH, x.2.2⟩⟩
      have h1 := HE.out
      rw [List.take_length] at h1
      exact (RecIn.at_ (h1.seq (by omega))).imp (fun _ _ _ e => e) fun _ _ _ x => x.atA
end Go.Proofs.Yteandjophamipaa
