/- The walk of node.Read. -/
import Derived.Test.YtdpfanifagfciaaDoorNodeP
import Derived.Test.YtdpfanifagfciaaDoorStageG
import Derived.Deep.CutBlock
import Derived.Deep.DeepCutAuto
namespace Go.Proofs.YtdpfanifagfciaaDoor
open Go.RowKit
attribute [local go_sem ↓] Go.wp_at_zero Go.wp_at_succ
theorem store_funcN (wx : World) (b : Nat) (f : Fn) (c1 c2 : Array Value) (hc : (wx.cell? ⟨b, 0, none⟩).isSome = true) (hf : wx.frozen? ⟨b, 0, none⟩ = false) : (store ⟨b, 0, none⟩ (.func f c1 c2)).run Tryd.prog wx = .ok () (wx.setCell ⟨b, 0, none⟩ (.func f c1 c2)) := by
  obtain ⟨v0, h0⟩ := Option.isSome_iff_exists.1 hc
  rw [run_store Tryd.prog wx _ _ _ rfl, h0]
  simp [hf]
def fnN (b4 b5 : Nat) : Value := .func (.func 48) #[] #[.pointer (some ⟨b4, 0, none⟩), .pointer (some ⟨b5, 0, none⟩)]
/-- The state while a directory is read: what is left, whether all was well, the function that takes. -/
structure NdX (w0 w : World) (b4 b5 b6 : Nat) (r : List UInt8) (bad : Bool) : Prop where
  rd : RdS w b4 b5 r bad
  c6 : w.cell? ⟨b6, 0, none⟩ = some (fnN b4 b5)
  t6 : typH w.heap b6 = some 66
  kp : Keeps w0 w
structure OrdN (w0 : World) (b4 b5 b6 : Nat) : Prop where
  n45 : b4 ≠ b5
  n64 : b6 ≠ b4
  n65 : b6 ≠ b5
  l4 : w0.heap.size ≤ b4
  l5 : w0.heap.size ≤ b5
  l6 : w0.heap.size ≤ b6
theorem NdX.lt {w0 w : World} {b4 b5 b6 : Nat} {r : List UInt8} {bad : Bool} (x : NdX w0 w b4 b5 b6 r bad) : b4 < w.heap.size ∧ b5 < w.heap.size ∧ b6 < w.heap.size ∧ w0.heap.size ≤ w.heap.size := ⟨typH_lt x.rd.t5, typH_lt x.rd.t6, typH_lt x.t6, x.kp.size⟩
theorem NdX.chg {w0 w w' : World} {b4 b5 b6 : Nat} {r : List UInt8} {bad : Bool} {T : Nat → Prop} (x : NdX w0 w b4 b5 b6 r bad) (c : Chg T w w') (h4 : ¬ T b4) (h5 : ¬ T b5) (h6 : ¬ T b6) (hu : ∀ b, T b → typH w.heap b ≠ some 5) (h0 : ∀ b, b < w0.heap.size → ¬ T b) : NdX w0 w' b4 b5 b6 r bad := by
  obtain ⟨⟨⟨p, q, c5, hs, hq⟩, f5, c6, f6, t5, t6⟩, c7, t7, kp⟩ := x
  refine ⟨⟨⟨p, q, ?_, hs.chg c hu, hq⟩, ?_, ?_, ?_, typH_chg c t5 h4, typH_chg c t6 h5⟩, ?_, typH_chg c t7 h6, ((Kept.any (T := T) kp).trans c).keeps fun y h1 => h0 y h1⟩
  · rw [cell_of] at c5 ⊢; exact cellH_chg c c5 h4
  · rw [froz_of] at f5 ⊢; rw [frozH_chg c (typH_lt t5) h4]; exact f5
  · rw [cell_of] at c6 ⊢; exact cellH_chg c c6 h5
  · rw [froz_of] at f6 ⊢; rw [frozH_chg c (typH_lt t6) h5]; exact f6
  · rw [cell_of] at c7 ⊢; exact cellH_chg c c7 h6
theorem NdX.keeps {w0 w w' : World} {b4 b5 b6 : Nat} {r : List UInt8} {bad : Bool} (x : NdX w0 w b4 b5 b6 r bad) (k : Keeps w w') : NdX w0 w' b4 b5 b6 r bad := x.chg (T := fun _ => False) (Kept.any k) (fun x => x) (fun x => x) (fun x => x) (fun _ x => x.elim) fun _ _ x => x
theorem NdX.step {w0 w w' : World} {b4 b5 b6 : Nat} {r r' : List UInt8} {bad bad' : Bool} (x : NdX w0 w b4 b5 b6 r bad) (o : OrdN w0 b4 b5 b6) (s : RdS w' b4 b5 r' bad') (c : Chg (fun y => y = b4 ∨ y = b5) w w') : NdX w0 w' b4 b5 b6 r' bad' :=
  have h6 : ¬ (b6 = b4 ∨ b6 = b5) := fun e => e.elim o.n64 o.n65
  ⟨s, by have h := x.c6; rw [cell_of] at h ⊢; exact cellH_chg c h h6, typH_chg c x.t6 h6, ((Kept.any (T := fun y => y = b4 ∨ y = b5) x.kp).trans c).keeps fun y h1 h2 => by have := o.l4; have := o.l5; omega⟩
theorem ndx_new {w w5 wz : World} {T : List UInt8} {bad : Bool} {n c N : Nat} (hN : N = w5.heap.size) (hwz : wz = ((w5.alloc (.cells #[.slice (some ⟨w.heap.size, 0, none⟩) n c] 45)).alloc (.cells #[.bool bad] 4)).alloc (.cells #[fnN N (N + 1)] 66))
    (hrow : RowIn (· = w.heap.size) w5.heap (.slice (some ⟨w.heap.size, 0, none⟩) n c) T) (hn : n = T.length) (hc : n ≤ c) (hk5 : Keeps w w5) : NdX w wz N (N + 1) (N + 1 + 1) T bad ∧ OrdN w N (N + 1) (N + 1 + 1) := by
  subst hn hN
  obtain ⟨wa, hwa⟩ : ∃ wa, wa = w5.alloc (.cells #[.slice (some ⟨w.heap.size, 0, none⟩) T.length c] 45) := ⟨_, rfl⟩
  obtain ⟨wb, hwb⟩ : ∃ wb, wb = wa.alloc (.cells #[.bool bad] 4) := ⟨_, rfl⟩
  rw [← hwa, ← hwb] at hwz
  have sa : wa.heap.size = w5.heap.size + 1 := by rw [hwa]; simp
  have sb : wb.heap.size = w5.heap.size + 1 + 1 := by rw [hwb]; simp [sa]
  have ka : Keeps w5 wa := by rw [hwa]; exact kal _ _
  have kb : Keeps wa wb := by rw [hwb]; exact kal _ _
  have kz : Keeps wb wz := by rw [hwz]; exact kal _ _
  have h5 : wa.heap[w5.heap.size]? = some (.cells #[.slice (some ⟨w.heap.size, 0, none⟩) T.length c] 45 (0, 0)) := by rw [hwa]; exact heap_alloc_new _ _
  have h6 : wb.heap[wa.heap.size]? = some (.cells #[.bool bad] 4 (0, 0)) := by rw [hwb]; exact heap_alloc_new _ _
  have h7 : wz.heap[wb.heap.size]? = some (.cells #[fnN w5.heap.size (w5.heap.size + 1)] 66 (0, 0)) := by rw [hwz]; exact heap_alloc_new _ _
  have c5 : wa.cell? ⟨w5.heap.size, 0, none⟩ = some (.slice (some ⟨w.heap.size, 0, none⟩) T.length c) := cell_of_row wa _ 0 _ _ _ h5
  have c6 : wb.cell? ⟨wa.heap.size, 0, none⟩ = some (.bool bad) := cell_of_row wb _ 0 _ _ _ h6
  have c7 : wz.cell? ⟨wb.heap.size, 0, none⟩ = some (fnN w5.heap.size (w5.heap.size + 1)) := cell_of_row wz _ 0 _ _ _ h7
  have t7 := typH_of h7
  have kbz : Keeps wa wz := kb.trans kz
  have k5z : Keeps w5 wz := ka.trans kbz
  have hsz := hk5.size
  rw [sa] at c6 h6
  rw [sb] at c7 t7
  exact ⟨⟨⟨⟨_, c, keeps_cell kbz c5, (SeqIn.ty hrow).keeps k5z, hc⟩, keeps_froz kbz c5 (frozen_of_row wa _ 0 _ _ h5), keeps_cell kz c6, keeps_froz kz c6 (frozen_of_row wb _ 0 _ _ h6), typH_chg (T := fun _ => False) (Kept.any kbz) (typH_of h5) (fun x => x), typH_chg (T := fun _ => False) (Kept.any kz) (typH_of h6) (fun x => x)⟩,
    c7, t7, hk5.trans k5z⟩, ⟨by omega, by omega, by omega, by omega, by omega, by omega⟩⟩
def entA (nm : ByteArray) (d : Bool) (z : Int) (cv : Value) : Array Value := #[.string nm, .bool d, .int .i64 z, cv]
/-- The state while an entry is read: it lies in the first block behind the world at the round's start. -/
structure InX (w0 wk w : World) (b4 b5 b6 : Nat) (r : List UInt8) (bad : Bool) (nm : ByteArray) (d : Bool) (z : Int) (cv : Value) : Prop where
  nd : NdX w0 w b4 b5 b6 r bad
  ch : Chg (fun y => y = b4 ∨ y = b5) wk w
  xb : BlkAt w wk.heap.size 33 (entA nm d z cv)
  l4 : b4 < wk.heap.size
  l5 : b5 < wk.heap.size
  l6 : b6 < wk.heap.size
  l0 : w0.heap.size ≤ wk.heap.size
section
variable {w0 wk w w' : World} {b4 b5 b6 : Nat} {r r' : List UInt8} {bad bad' : Bool} {nm : ByteArray} {d : Bool} {z : Int} {cv : Value}
theorem inx_new (x : NdX w0 wk b4 b5 b6 r bad) (nm : ByteArray) (d : Bool) (z : Int) (cv : Value) : InX w0 wk (wk.alloc (.cells #[.string nm, .bool d, .int .i64 z, cv] 33)) b4 b5 b6 r bad nm d z cv :=
  ⟨x.keeps (kal _ _), Kept.any (kal _ _), BlkAt.new _ _ _, x.lt.1, x.lt.2.1, x.lt.2.2.1, x.lt.2.2.2⟩
theorem InX.step (x : InX w0 wk w b4 b5 b6 r bad nm d z cv) (o : OrdN w0 b4 b5 b6) (s : RdS w' b4 b5 r' bad') (c : Chg (fun y => y = b4 ∨ y = b5) w w') : InX w0 wk w' b4 b5 b6 r' bad' nm d z cv :=
  ⟨x.nd.step o s c, x.ch.trans c, x.xb.chg c (by have := x.l4; have := x.l5; omega), x.l4, x.l5, x.l6, x.l0⟩
theorem InX.keeps (x : InX w0 wk w b4 b5 b6 r bad nm d z cv) (k : Keeps w w') : InX w0 wk w' b4 b5 b6 r bad nm d z cv :=
  ⟨x.nd.keeps k, x.ch.trans (Kept.any k), x.xb.keeps k, x.l4, x.l5, x.l6, x.l0⟩
theorem nd_entry (x : InX w0 wk w b4 b5 b6 r bad nm d z cv) {b : Nat} (h : typH w.heap b = some 33 ∨ typH w.heap b = some 9) : b ≠ b4 ∧ b ≠ b5 ∧ b ≠ b6 ∧ typH w.heap b ≠ some 5 := by
  refine ⟨fun e => ?_, fun e => ?_, fun e => ?_, fun e => ?_⟩
  · have := x.nd.rd.t5; rw [← e] at this; rcases h with h | h <;> rw [h] at this <;> exact absurd this (by decide)
  · have := x.nd.rd.t6; rw [← e] at this; rcases h with h | h <;> rw [h] at this <;> exact absurd this (by decide)
  · have := x.nd.t6; rw [← e] at this; rcases h with h | h <;> rw [h] at this <;> exact absurd this (by decide)
  · rcases h with h | h <;> rw [h] at e <;> exact absurd e (by decide)
theorem InX.setF (x : InX w0 wk w b4 b5 b6 r bad nm d z cv) (i : Nat) (v : Value) {nm' : ByteArray} {d' : Bool} {z' : Int} {cv' : Value} (he : (entA nm d z cv).setIfInBounds i v = entA nm' d' z' cv') : InX w0 wk (w.setCell ⟨wk.heap.size, i, none⟩ v) b4 b5 b6 r bad nm' d' z' cv' := by
  have hn := nd_entry x (.inl x.xb.typ)
  have c := chg_set w wk.heap.size i v
  refine ⟨x.nd.chg c (fun e => hn.1 e.symm) (fun e => hn.2.1 e.symm) (fun e => hn.2.2.1 e.symm) (fun b e => by subst e; exact hn.2.2.2) (fun b hb e => by have := x.l0; omega), Chg.setCell (p := ⟨wk.heap.size, i, none⟩) x.ch (fun h => absurd h (by simp)) v, ?_, x.l4, x.l5, x.l6, x.l0⟩
  rw [← he]; exact x.xb.set i v
theorem InX.grow {ob : Option Nat} (x : InX w0 wk w b4 b5 b6 r bad nm d z cv) (c : Chg (fun k => ob = some k) w w') (ho : ∀ k, ob = some k → wk.heap.size ≤ k ∧ typH w.heap k = some 9) : InX w0 wk w' b4 b5 b6 r bad nm d z cv := by
  have hn : ∀ k, ob = some k → k ≠ b4 ∧ k ≠ b5 ∧ k ≠ b6 ∧ typH w.heap k ≠ some 5 := fun k hk => nd_entry x (.inr (ho k hk).2)
  refine ⟨x.nd.chg c (fun e => (hn _ e).1 rfl) (fun e => (hn _ e).2.1 rfl) (fun e => (hn _ e).2.2.1 rfl) (fun b e => (hn b e).2.2.2) (fun b hb e => by have := (ho b e).1; have := x.l0; omega), ?_, x.xb.chg c (fun e => ?_), x.l4, x.l5, x.l6, x.l0⟩
  · exact ⟨c.1.trans x.ch.1, c.2.1.trans x.ch.2.1, c.2.2.1.trans x.ch.2.2.1, Nat.le_trans x.ch.size c.size, fun k hk hT => (c.2.2.2.2 k (Nat.lt_of_lt_of_le hk x.ch.size) fun e => by have := (ho k e).1; omega).trans (x.ch.2.2.2.2 k hk hT)⟩
  · have := (ho _ e).2
    rw [x.xb.typ] at this; exact absurd this (by decide)
/-- An entry's chunks: a row of the call's own, behind the entry. -/
abbrev ChN (wk w : World) (cv : Value) (c : List ByteArray) : Prop := OwnSeq wk.heap.size 9 IsText w cv c
theorem ChN.step {c : List ByteArray} (s : ChN wk w cv c) (x : InX w0 wk w b4 b5 b6 r bad nm d z cv) (h : Chg (fun y => y = b4 ∨ y = b5) w w') : ChN wk w' cv c := by
  obtain ⟨us, h1, h2, h3⟩ := s
  exact ⟨us, owns_chg h1 h fun k hk e => by have := (own_block h1 k hk).1; have := x.l4; have := x.l5; omega, h2, h3⟩
theorem ChN.keeps {c : List ByteArray} (s : ChN wk w cv c) (h : Keeps w w') : ChN wk w' cv c := OwnSeq.chg (T := fun _ => False) s (Kept.any h) (fun _ _ x => x) fun _ _ _ x => x
theorem ChN.setF {c : List ByteArray} {cv' : Value} (s : ChN wk w cv' c) (x : InX w0 wk w b4 b5 b6 r bad nm d z cv) (i : Nat) (v : Value) : ChN wk (w.setCell ⟨wk.heap.size, i, none⟩ v) cv' c := by
  obtain ⟨us, h1, h2, h3⟩ := s
  exact ⟨us, owns_chg h1 (chg_set w wk.heap.size i v) fun k hk e => by
    have := (own_block h1 k hk).2.2
    rw [e, x.xb.typ] at this; exact absurd this (by decide), h2, h3⟩
end
theorem elS_stop (m : Nat) (acc : List EntR) (r : List UInt8) : elS m acc r true = (acc, r, true) := by cases m <;> simp [elS]
theorem elS_zero (acc : List EntR) (r : List UInt8) (bad : Bool) : elS 0 acc r bad = (acc, r, bad) := by simp [elS]
theorem elS_next (m : Nat) (acc : List EntR) (r : List UInt8) : elS (m + 1) acc r false = elS m (acc ++ [(enS r false).1]) (enS r false).2.1 (enS r false).2.2 := by rw [elS]; simp
theorem chS_stop (m : Nat) (acc : List ByteArray) (r : List UInt8) : chS m acc r true = (acc, r, true) := by cases m <;> simp [chS]
theorem chS_zero (acc : List ByteArray) (r : List UInt8) (bad : Bool) : chS 0 acc r bad = (acc, r, bad) := by simp [chS]
theorem chS_next (m : Nat) (acc : List ByteArray) (r : List UInt8) : chS (m + 1) acc r false = chS m (acc ++ [strB (tkB 32 r)]) (drB 32 r) (badB 32 r false) := by rw [chS]; simp
theorem tk_len (m : Nat) (r : List UInt8) : (tkB m r).length ≤ m := by
  unfold tkB
  split
  · rw [List.length_take]; omega
  · simp
theorem tk_lt1 (r : List UInt8) : beN (tkB 1 r) < 256 := by
  have h1 := beN_lt (tkB 1 r)
  have h3 : 256 ^ (tkB 1 r).length ≤ 256 ^ 1 := Nat.pow_le_pow_right (by decide) (tk_len 1 r)
  omega
theorem tk_lt2 (r : List UInt8) : beN (tkB 2 r) < 65536 := by
  have h1 := beN_lt (tkB 2 r)
  have h3 : 256 ^ (tkB 2 r).length ≤ 256 ^ 2 := Nat.pow_le_pow_right (by decide) (tk_len 2 r)
  omega
theorem tk_lt4 (r : List UInt8) : beN (tkB 4 r) < 4294967296 := by
  have h1 := beN_lt (tkB 4 r)
  have h3 : 256 ^ (tkB 4 r).length ≤ 256 ^ 4 := Nat.pow_le_pow_right (by decide) (tk_len 4 r)
  omega
/-- What changes within a drawn region: no rows of bytes, no blocks that are new. -/
def RelU (N : Nat) (w w' : World) : Prop := Chg (fun b => typH w.heap b ≠ some 5 ∧ b < N) w w'
theorem relU_refl (N : Nat) (w : World) : RelU N w w := Chg.refl _ w
theorem relU_call {N : Nat} {w w' : World} {b4 b5 : Nat} {r : List UInt8} {bad : Bool} (c : Chg (fun y => y = b4 ∨ y = b5) w w') (h : RdS w b4 b5 r bad) (h4 : b4 < N) (h5 : b5 < N) : RelU N w w' :=
  c.mono fun k _ e => ⟨rds_types h.t5 h.t6 k e, by omega⟩
theorem relU_set {N : Nat} {w : World} {b i : Nat} {E : TypeId} {v : Value} (ht : typH w.heap b = some E) (hE : E ≠ 5) (hb : b < N) : RelU N w (w.setCell ⟨b, i, none⟩ v) :=
  (chg_set w b i v).mono fun k _ e => by
    subst e
    exact ⟨fun x => hE (Option.some.inj (ht.symm.trans x)), hb⟩
theorem relU_keeps {N : Nat} {w w' : World} (k : Keeps w w') : RelU N w w' := Kept.any k
theorem relU_own {N n base : Nat} {w w' : World} {v : Value} {us : List Value} (c : Chg (fun k => v.ownBlock = some k) w w') (ho : w.ownsRow base 9 1 v n us) (hb : ∀ k, v.ownBlock = some k → k < N) : RelU N w w' :=
  c.mono fun k _ e => ⟨fun x => by rw [(own_block ho k e).2.2] at x; exact absurd x (by decide), hb k e⟩
theorem own_slice9 {w : World} {base : Nat} {E : TypeId} {v : Value} {k n : Nat} {us : List Value} (h : w.ownsRow base E k v n us) : ∃ p c, v = .slice p n c := let ⟨p, c, e, _⟩ := own_sliceC h; ⟨p, c, e⟩
theorem InX.lt {w0 wk w : World} {b4 b5 b6 : Nat} {r : List UInt8} {bad : Bool} {nm : ByteArray} {d : Bool} {z : Int} {cv : Value} (x : InX w0 wk w b4 b5 b6 r bad nm d z cv) : wk.heap.size < w.heap.size := x.xb.lt
/-- What node.Read tells. -/
def NReadR (s : List UInt8) (w w' : World) (e : Ending) : Prop :=
  Keeps w w' ∧ ((readP s = none ∧ e = .returned (.tuple #[.slice none 0 0, .int .i64 4])) ∨ ∃ l v, readP s = some l ∧ e = .returned (.tuple #[v, .int .i64 0]) ∧ OwnRec w.heap.size 33 4 (IsEntT (w.heap.size ≤ ·) w'.heap) w' v l)
abbrev OutN (w0 w : World) (v : Value) (l : List EntR) : Prop := OwnRec w0.heap.size 33 4 (IsEntT (w0.heap.size ≤ ·) w.heap) w v l
theorem no_entry {w0 w : World} {b4 b5 b6 q : Nat} {r : List UInt8} {bad : Bool} (x : NdX w0 w b4 b5 b6 r bad) (h : typH w.heap q = some 33 ∨ typH w.heap q = some 9) (e : q = b4 ∨ q = b5) : False := by
  rcases e with rfl | rfl
  · have := x.rd.t5; rcases h with h | h <;> rw [h] at this <;> exact absurd this (by decide)
  · have := x.rd.t6; rcases h with h | h <;> rw [h] at this <;> exact absurd this (by decide)
theorem ndx_push {w0 w w1 w' : World} {b4 b5 b6 n base : Nat} {r : List UInt8} {bad : Bool} {v : Value} {us : List Value} (x : NdX w0 w b4 b5 b6 r bad) (k : Keeps w w1) (hu : w.ownsRow base 33 4 v n us) (c : Chg (fun q => v.ownBlock = some q) w1 w') (hb : w0.heap.size ≤ base := by exact Nat.le_refl _) : NdX w0 w' b4 b5 b6 r bad := by
  have y := x.keeps k
  have hu1 := owns_chgK (T := fun _ => False) hu (Kept.any k) fun _ _ z => z
  refine y.chg c (own_typeT hu1 y.rd.t5 (by decide)) (own_typeT hu1 y.rd.t6 (by decide)) (own_typeT hu1 y.t6 (by decide)) (fun b e z => own_typeT hu1 z (by decide) e) fun b h e => ?_
  have := (own_blockK hu1 b e).1
  omega
theorem out_push {w0 w w1 w' : World} {m : Nat} {v v' : Value} {us : List (List Value)} {l : List EntR} {nm : ByteArray} {d : Bool} {z : Int} {pc : Option Addr} {qc : Nat} {c : List ByteArray}
    (h1 : us.length = l.length) (h2 : ∀ i (h : i < us.length) (h' : i < l.length), us[i].length = 4 ∧ IsEntT (w0.heap.size ≤ ·) w.heap us[i] l[i]) (hu : w.ownsRow w0.heap.size 33 4 v m us.flatten) (k : Keeps w w1)
    (hown : w'.ownsRow w0.heap.size 33 4 v' (us.length + 1) (us.flatten ++ [.string nm, .bool d, .int .i64 z, .slice pc c.length qc])) (hc : Chg (fun q => v.ownBlock = some q) w1 w') (hs : SeqIn (w0.heap.size ≤ ·) 9 IsText w.heap (.slice pc c.length qc) c) (hq : c.length ≤ qc) : OutN w0 w' v' (l ++ [⟨nm, d, z, c⟩]) := by
  have cc : Chg (fun q => v.ownBlock = some q) w w' := (Kept.any k).trans hc
  exact OwnRec.push (R := IsEntT (w0.heap.size ≤ ·) w.heap) h1 h2 hown (fun a b _ x => IsEntT.chg x cc fun b _ _ ht => own_typeT hu ht (by decide)) rfl (IsEntT.chg ⟨_, rfl, hs, fun _ _ _ e => by cases e; exact hq⟩ cc fun b _ _ ht => own_typeT hu ht (by decide))
def rdA (w0 wk : World) (b4 b5 b6 : Nat) (r1 : List UInt8) (b2 dd : Bool) : Nat → World → Prop
  | 0, w => InX w0 wk w b4 b5 b6 r1 b2 ⟨#[]⟩ false 0 (.slice none 0 0)
  | 1, w => InX w0 wk w b4 b5 b6 (drB 1 r1) (badB 1 r1 b2) ⟨#[]⟩ false 0 (.slice none 0 0)
  | 2, w => InX w0 wk w b4 b5 b6 (drB (beN (tkB 1 r1)) (drB 1 r1)) (badB (beN (tkB 1 r1)) (drB 1 r1) (badB 1 r1 b2)) ⟨#[]⟩ false 0 (.slice none 0 0)
  | 3, w => InX w0 wk w b4 b5 b6 (drB (beN (tkB 1 r1)) (drB 1 r1)) (badB (beN (tkB 1 r1)) (drB 1 r1) (badB 1 r1 b2)) ⟨#[]⟩ dd 0 (.slice none 0 0)
  | _, w => InX w0 wk w b4 b5 b6 (drB (beN (tkB 1 r1)) (drB 1 r1)) (badB (beN (tkB 1 r1)) (drB 1 r1) (badB 1 r1 b2)) (strB (tkB (beN (tkB 1 r1)) (drB 1 r1))) dd 0 (.slice none 0 0)
theorem rdA_c6 {w0 wk w : World} {b4 b5 b6 : Nat} {r1 : List UInt8} {b2 dd : Bool} {s : Nat} (h : rdA w0 wk b4 b5 b6 r1 b2 dd s w) : w.cell? ⟨b6, 0, none⟩ = some (fnN b4 b5) :=
  match s, h with
  | 0, h => h.nd.c6
  | 1, h => h.nd.c6
  | 2, h => h.nd.c6
  | 3, h => h.nd.c6
  | _ + 4, h => h.nd.c6
def rdAP (b4 b5 b6 GG κ : Nat) (r1 : List UInt8) (dd : Bool) : Nat → Value → World → Prop
  | 5, v, w => ∃ p q, v = .slice p (tkB (beN (tkB 1 r1)) (drB 1 r1)).length q ∧ SeqTy 5 IsByte w.heap v (tkB (beN (tkB 1 r1)) (drB 1 r1))
  | i, v, _ => v = ([.int .i64 (κ : Int), .bool dd, .func (.func 48) #[] #[.pointer (some ⟨b4, 0, none⟩), .pointer (some ⟨b5, 0, none⟩)], .func (.func 49) #[] #[.pointer (some ⟨b6, 0, none⟩)], .int .i64 ((beN (tkB 1 r1)) : Int), undef, .string (strB (tkB (beN (tkB 1 r1)) (drB 1 r1))), .pointer (some ⟨GG, 1, none⟩), undef, .pointer (some ⟨GG, 0, none⟩), undef] : List Value).getD i undef
theorem rdAP_chg {N : Nat} {b4 b5 b6 GG κ : Nat} {r1 : List UInt8} {dd : Bool} (i : Nat) (v : Value) (w w' : World) (c : RelU N w w') (h : rdAP b4 b5 b6 GG κ r1 dd i v w) : rdAP b4 b5 b6 GG κ r1 dd i v w' := by
  match i, h with
  | 0, h => exact h
  | 1, h => exact h
  | 2, h => exact h
  | 3, h => exact h
  | 4, h => exact h
  | 5, h => exact (let ⟨p, q, e, hr⟩ := h; ⟨p, q, e, hr.chg c fun b hb => hb.1⟩)
  | 6, h => exact h
  | 7, h => exact h
  | 8, h => exact h
  | 9, h => exact h
  | 10, h => exact h
  | _ + 11, h => exact h
def rdB (w0 wk : World) (N0 b4 b5 b6 NC : Nat) (r : List UInt8) (nm : ByteArray) (dd : Bool) (z : Int) (pc : Option Addr) (qc : Nat) (c : List ByteArray) : Nat → (Nat → Value) → World → Prop
  | 0, _, w => InX w0 wk w b4 b5 b6 r false nm dd z (.slice pc NC qc) ∧ ChN wk w (.slice pc NC qc) c ∧ N0 ≤ w.heap.size
  | 1, _, w => InX w0 wk w b4 b5 b6 (drB 32 r) (badB 32 r false) nm dd z (.slice pc NC qc) ∧ ChN wk w (.slice pc NC qc) c ∧ N0 ≤ w.heap.size
  | 2, vs, w => InX w0 wk w b4 b5 b6 (drB 32 r) (badB 32 r false) nm dd z (.slice pc NC qc) ∧ ChN wk w (vs 6) (c ++ [(strB (tkB 32 r))])
  | _, vs, w => InX w0 wk w b4 b5 b6 (drB 32 r) (badB 32 r false) nm dd z (vs 6) ∧ ChN wk w (vs 6) (c ++ [(strB (tkB 32 r))])
theorem rdB_upd {w0 wk : World} {N0 b4 b5 b6 NC : Nat} {r : List UInt8} {nm : ByteArray} {dd : Bool} {z : Int} {pc : Option Addr} {qc : Nat} {c : List ByteArray} {s i : Nat} {vs : Nat → Value} {v : Value} {w : World} (h : rdB w0 wk N0 b4 b5 b6 NC r nm dd z pc qc c s vs w) (hi : 6 ≠ i) : rdB w0 wk N0 b4 b5 b6 NC r nm dd z pc qc c s (upd vs i v) w :=
  match s, h with
  | 0, h => h
  | 1, h => h
  | 2, h => ⟨h.1, by rw [upd_other _ _ hi]; exact h.2⟩
  | _ + 3, h => by
    obtain ⟨h1, h2⟩ := h
    refine ⟨?_, ?_⟩ <;> rw [upd_other _ _ hi] <;> assumption
theorem rdB_ld {w0 wk : World} {N0 b4 b5 b6 NC : Nat} {r : List UInt8} {nm : ByteArray} {dd : Bool} {z : Int} {pc : Option Addr} {qc : Nat} {c : List ByteArray} {s : Nat} {vs : Nat → Value} {w : World} (h : rdB w0 wk N0 b4 b5 b6 NC r nm dd z pc qc c s vs w) (hs : s ≤ 1) : w.cell? ⟨wk.heap.size, 3, none⟩ = some (.slice pc NC qc) :=
  match s, hs, h with
  | 0, _, h => h.1.xb.cell rfl
  | 1, _, h => h.1.xb.cell rfl
def rdBP (b4 b5 b6 GG N0 NC : Nat) (r : List UInt8) (pc : Option Addr) (qc : Nat) : Nat → Value → World → Prop
  | 3, v, w => ∃ p q, v = .slice p (tkB 32 r).length q ∧ SeqTy 5 IsByte w.heap v (tkB 32 r)
  | 5, v, w => ∃ q, v = .slice (some ⟨q, 0, none⟩) 1 1 ∧ N0 ≤ q ∧ BlkAt w q 9 #[.string (strB (tkB 32 r))]
  | 6, v, _ => ∃ p q, v = .slice p (NC + 1) q
  | i, v, _ => v = ([.pointer (some ⟨GG, 3, none⟩), .slice pc NC qc, .func (.func 48) #[] #[.pointer (some ⟨b4, 0, none⟩), .pointer (some ⟨b5, 0, none⟩)], undef, .string (strB (tkB 32 r)), undef, undef, .pointer (some ⟨GG, 3, none⟩), undef] : List Value).getD i undef
theorem rdBP_chg {b4 b5 b6 GG N0 NC : Nat} {r : List UInt8} {pc : Option Addr} {qc : Nat} (i : Nat) (v : Value) (w w' : World) (c : RelU N0 w w') (h : rdBP b4 b5 b6 GG N0 NC r pc qc i v w) : rdBP b4 b5 b6 GG N0 NC r pc qc i v w' := by
  match i, h with
  | 0, h => exact h
  | 1, h => exact h
  | 2, h => exact h
  | 3, h => exact (let ⟨p, q, e, hr⟩ := h; ⟨p, q, e, hr.chg c fun b hb => hb.1⟩)
  | 4, h => exact h
  | 5, h => exact (let ⟨q, e, hq, hb⟩ := h; ⟨q, e, hq, hb.chg c fun x => Nat.not_lt.2 hq x.2⟩)
  | 6, h => exact h
  | 7, h => exact h
  | 8, h => exact h
  | _ + 9, h => exact h
set_option maxRecDepth 100000 in
set_option maxHeartbeats 4000000 in
theorem nread_any (s : ByteArray) (w : World) (hs : s.size ≤ 1000000) : Calls Tryd.prog 15 #[.string s] w fun e w' => NReadR s.data.toList w w' e := by
  have HSL : Hid (s.data.toList.length = s.size) := data_size s
  obtain ⟨bad0, hb0⟩ : ∃ b, decide (16384 < s.size) = b := ⟨_, rfl⟩
  have gb0 : decide ((16384 : Int) < (s.size : Int)) = bad0 := by rw [← hb0]; exact decide_eq_decide.2 (by omega)
  have HB0 : Hid (decide (16384 < s.data.toList.length) = bad0) := by show _ = _; rw [HSL.out, hb0]
  clear hb0
  have fst := store_funcN
  go_enter Tryd.func15, Tryd.ntmps15
  go_upto_region 5 with (refine wp_bytes rfl 9 45 (.tmp 11) rfl s rfl Tryd.underlying9 Tryd.underlying45 Tryd.underlying5 (by omega) ?_; intro c w5 hc hrow hk5)
  obtain ⟨wz, hwz⟩ : ∃ wz, wz = ((w5.alloc (.cells #[.slice (some ⟨w.heap.size, 0, none⟩) s.size c] 45)).alloc (.cells #[.bool bad0] 4)).alloc (.cells #[fnN w5.heap.size (w5.heap.size + 1)] 66) := ⟨_, rfl⟩
  have HZ0 := ndx_new rfl hwz hrow HSL.out.symm hc hk5
  unfold fnN at hwz
  rw [← hwz]
  have HZ := Lib.hid HZ0.1
  have HO := Lib.hid HZ0.2
  clear hwz hrow hc hk5 fst gb0 HSL HZ0
  generalize w5.heap.size = b4 at *
  generalize hb5 : b4 + 1 = b5 at *
  generalize hb6 : b5 + 1 = b6 at *
  generalize hS : s.data.toList = S at *
  have HSS := Lib.hid hS
  clear hb5 hb6 hS hs
  have hne := HO.out.n45
  obtain ⟨bad1, hbad1⟩ : ∃ b, ((tkB 4 S != [100, 105, 114, 49]) || badB 4 S bad0) = b := ⟨_, rfl⟩
  have HB1 := Lib.hid hbad1
  clear hbad1
  go_cut [] (fun wx => Hid (NdX w wx b4 b5 b6 (drB 4 S) bad1))
  case first =>
    have c6 := HZ.out.c6
    unfold fnN at c6
    go_wp2_with fail
    clear c6
    refine Calls.mono (ntake_any 4 b4 b5 S bad0 wz HZ.out.rd hne (by omega)) ?_
    rintro e wa ⟨v, rfl, hs, hv, hch⟩
    have HA := Lib.hid (HZ.out.step HO.out hs hch)
    obtain ⟨pv, qv, rfl⟩ := seq_shape hv.1
    have hcv := conv_row (P := Tryd.prog) (src := 45) (dst := 9) (e := 5) Tryd.underlying45 (by kernel_rfl) Tryd.underlying9 hv.1
    clear hs hv hch HZ
    have c5 := HA.out.rd.c6
    have f5 := HA.out.rd.f6
    have HB2 := HB1.out
    cases hm : (tkB 4 S != [100, 105, 114, 49]) with
    | true =>
      have hc1 : ((strB (tkB 4 S)).toList == [100, 105, 114, 49]) = false := by rw [strB_toList]; simpa [bne] using hm
      rw [hm, Bool.true_or] at HB2
      have HX : Hid (NdX w (wa.setCell ⟨b5, 0, none⟩ (.bool true)) b4 b5 b6 (drB 4 S) true) := HA.out.step HO.out (rds_set6 HA.out.rd hne _) (Chg.setCell (Chg.refl _ wa) (p := ⟨b5, 0, none⟩) (fun _ => .inr rfl) _)
      subst HB2
      clear hm HA HB1
      go_wp2_with fail
      go_meet
      exact HX
    | false =>
      have hc1 : ((strB (tkB 4 S)).toList == [100, 105, 114, 49]) = true := by rw [strB_toList]; simpa [bne] using hm
      rw [hm, Bool.false_or] at HB2
      have HX : Hid (NdX w (wa.setCell ⟨b5, 0, none⟩ (.bool (badB 4 S bad0))) b4 b5 b6 (drB 4 S) (badB 4 S bad0)) := HA.out.step HO.out (rds_set6 HA.out.rd hne _) (Chg.setCell (Chg.refl _ wa) (p := ⟨b5, 0, none⟩) (fun _ => .inr rfl) _)
      generalize badB 4 S bad0 = bad2 at *
      subst HB2
      clear hm HA HB1
      go_wp2_with fail
      go_meet
      exact HX
  case rest =>
    obtain ⟨wy, rfl⟩ : ∃ wy : World, wy = wc := ⟨_, rfl⟩
    have HX := hcut
    clear hcut HZ
    go_wp2_with fail
    refine Calls.mono (nnum_any 2 b4 b5 b6 _ _ _ HX.out.rd hne (by omega) HX.out.c6) ?_
    rintro e wb ⟨rfl, hs, hch⟩
    have HX := Lib.hid (HX.out.step HO.out hs hch)
    have hM := tk_lt2 (drB 4 S)
    obtain ⟨M, hMe⟩ : ∃ M, beN (tkB 2 (drB 4 S)) = M := ⟨_, rfl⟩
    rw [hMe] at hM
    rw [hMe]
    have HRP : Hid (readP S = if (elS M [] (drB 2 (drB 4 S)) (badB 2 (drB 4 S) bad1)).2.2 || decide (0 < (elS M [] (drB 2 (drB 4 S)) (badB 2 (drB 4 S) bad1)).2.1.length) || !mayL (elS M [] (drB 2 (drB 4 S)) (badB 2 (drB 4 S) bad1)).1 then none else some (elS M [] (drB 2 (drB 4 S)) (badB 2 (drB 4 S) bad1)).1) := by
      show _ = _
      rw [← hMe, ← HB1.out, ← HB0.out]; rfl
    clear hs hch hMe HB1 HB0
    generalize drB 2 (drB 4 S) = r0 at *
    generalize badB 2 (drB 4 S) bad1 = bad2 at *
    obtain ⟨FN, hFN⟩ : ∃ F, elS M [] r0 bad2 = F := ⟨_, rfl⟩
    rw [hFN] at HRP
    have HFN := Lib.hid hFN
    clear hFN
    go_upto_block 0 with fail
    go_cut [8] (fun vo wx => ∃ (acc : List EntR) (r : List UInt8) (bad : Bool), Hid (FN = (acc, r, bad)) ∧ acc.length ≤ 65535 ∧ Hid (NdX w wx b4 b5 b6 r bad) ∧ Hid (OutN w wx vo acc))
    case first =>
      go_wp2_with fail
      go_loopw [8, 27] (fun vo i wr => ∃ (k : Nat) (acc : List EntR) (r : List UInt8) (bad : Bool), k ≤ M ∧ i = .int .i64 k ∧ acc.length ≤ k ∧ Hid (elS (M - k) acc r bad = FN) ∧ Hid (NdX w wr b4 b5 b6 r bad) ∧ Hid (OutN w wr vo acc)) (fun _ i _ => M - (intOf i).toNat)
      case atStart => exact ⟨0, [], r0, bad2, by omega, rfl, by simp, HFN.out, HX.out, OwnRec.nil _ _ _ _ _⟩
      case round =>
        obtain ⟨k, acc, r, bad, hk, rfl, hal, HE, HXr, HOr⟩ := hrel
        obtain ⟨wk, rfl⟩ : ∃ wy : World, wy = wr := ⟨_, rfl⟩
        clear HX HFN
        have c5 := HXr.out.rd.c6
        by_cases hlt : k < M
        · cases bad with
          | true =>
            have HF : Hid (FN = (acc, r, true)) := by show _ = _; rw [← HE.out, elS_stop]
            go_wp2_with fail
            go_meet
            exact ⟨acc, r, true, HF, by omega, HXr, HOr⟩
          | false =>
            have HE2 : Hid (elS (M - (k + 1)) (acc ++ [(enS r false).1]) (enS r false).2.1 (enS r false).2.2 = FN) := by
              show _ = _
              rw [← elS_next, ← HE.out]; congr 1; omega
            clear HE
            go_wp2_with fail
            have HI0 := inx_new HXr.out ⟨#[]⟩ false 0 (.slice none 0 0)
            refine Calls.mono (nnum_any 1 b4 b5 b6 _ _ _ HI0.nd.rd hne (by omega) HI0.nd.c6) ?_
            rintro e wa ⟨rfl, hs, hch⟩
            have HI := Lib.hid (HI0.step HO.out hs hch)
            have HEN : Hid (enS r false = (⟨strB (tkB (beN (tkB 1 (drB 1 r))) (drB 1 (drB 1 r))), decide ((beN (tkB 1 r)) = 1), ((beN (tkB 4 (drB (beN (tkB 1 (drB 1 r))) (drB 1 (drB 1 r))))) : Int), (chS (beN (tkB 2 (drB 4 (drB (beN (tkB 1 (drB 1 r))) (drB 1 (drB 1 r)))))) [] (drB 2 (drB 4 (drB (beN (tkB 1 (drB 1 r))) (drB 1 (drB 1 r))))) (badB 2 (drB 4 (drB (beN (tkB 1 (drB 1 r))) (drB 1 (drB 1 r)))) (badB 4 (drB (beN (tkB 1 (drB 1 r))) (drB 1 (drB 1 r))) (badB (beN (tkB 1 (drB 1 r))) (drB 1 (drB 1 r)) (badB 1 (drB 1 r) ((badB 1 r false) || decide (1 < (beN (tkB 1 r))))))))).1⟩, (chS (beN (tkB 2 (drB 4 (drB (beN (tkB 1 (drB 1 r))) (drB 1 (drB 1 r)))))) [] (drB 2 (drB 4 (drB (beN (tkB 1 (drB 1 r))) (drB 1 (drB 1 r))))) (badB 2 (drB 4 (drB (beN (tkB 1 (drB 1 r))) (drB 1 (drB 1 r)))) (badB 4 (drB (beN (tkB 1 (drB 1 r))) (drB 1 (drB 1 r))) (badB (beN (tkB 1 (drB 1 r))) (drB 1 (drB 1 r)) (badB 1 (drB 1 r) ((badB 1 r false) || decide (1 < (beN (tkB 1 r))))))))).2.1, (chS (beN (tkB 2 (drB 4 (drB (beN (tkB 1 (drB 1 r))) (drB 1 (drB 1 r)))))) [] (drB 2 (drB 4 (drB (beN (tkB 1 (drB 1 r))) (drB 1 (drB 1 r))))) (badB 2 (drB 4 (drB (beN (tkB 1 (drB 1 r))) (drB 1 (drB 1 r)))) (badB 4 (drB (beN (tkB 1 (drB 1 r))) (drB 1 (drB 1 r))) (badB (beN (tkB 1 (drB 1 r))) (drB 1 (drB 1 r)) (badB 1 (drB 1 r) ((badB 1 r false) || decide (1 < (beN (tkB 1 r))))))))).2.2)) := rfl
            have hk1 := tk_lt1 r
            have HXQ := Lib.hid HXr.out
            clear hs hch HI0 c5
            generalize beN (tkB 1 r) = κ at *
            generalize drB 1 r = r1 at *
            generalize badB 1 r false = b1 at *
            go_upto_region 12 with (fail)
            go_cut [] (fun wx => Hid (InX w wk wx b4 b5 b6 r1 (b1 || decide (1 < κ)) ⟨#[]⟩ false 0 (.slice none 0 0)))
            case first =>
              have c5 := HI.out.nd.rd.c6
              have f5 := HI.out.nd.rd.f6
              have hst : ∀ y, InX w wk (wa.setCell ⟨b5, 0, none⟩ (.bool y)) b4 b5 b6 r1 y ⟨#[]⟩ false 0 (.slice none 0 0) := fun y => HI.out.step HO.out (rds_set6 HI.out.nd.rd hne y) (Chg.setCell (Chg.refl _ wa) (p := ⟨b5, 0, none⟩) (fun _ => .inr rfl) _)
              cases b1 with
              | true =>
                have HX1 := Lib.hid (hst true)
                clear hst
                go_wp2_with fail
                go_meet
                exact HX1
              | false =>
                obtain ⟨y, hy⟩ : ∃ y, decide (1 < κ) = y := ⟨_, rfl⟩
                have gy : decide ((1 : Int) < (κ : Int)) = y := by rw [← hy]; exact decide_eq_decide.2 (by omega)
                have HX1 := Lib.hid (hst y)
                have HY := Lib.hid hy
                clear hst hy
                go_wp2_with fail
                go_meet
                rw [Bool.false_or, HY.out]
                exact HX1
            case rest =>
            obtain ⟨wx, rfl⟩ : ∃ wy : World, wy = wc := ⟨_, rfl⟩
            have HI := hcut
            clear hcut
            generalize (b1 || decide (1 < κ)) = b2 at *
            obtain ⟨dd, hdd⟩ : ∃ d, decide (κ = 1) = d := ⟨_, rfl⟩
            have HD1 : Hid (decide ((κ : Int) = 1) = dd) := by show _ = _; rw [← hdd]; exact decide_eq_decide.2 (by omega)
            have HD2 : Hid (((κ : Int) == 1) = dd) := by show _ = _; rw [← HD1.out]; rfl
            rw [hdd] at HEN
            have HLT : Hid (b4 < wx.heap.size ∧ b5 < wx.heap.size ∧ wk.heap.size < wx.heap.size) := ⟨HI.out.nd.lt.1, HI.out.nd.lt.2.1, HI.out.lt⟩
            clear hdd
            go_upto_region 13 with (fail)
            refine wp_region_stageG [38, 39, 40, 41, 42, 43, 44, 45, 10008, 46, 10010] [[], [0], [], [], [3], [2, 4], [5], [], [1, 5, 7], [], [6, 8, 9]] [4, 5, 8, 10] [0, 0, 0, 0, 0, 1, 2, 0, 2, 0, 3] [] [0, 1, 2, 6, 7, 9] [8, 10] (rdAP b4 b5 b6 wk.heap.size κ r1 dd) (RelU wx.heap.size) (fun s _ w1 => rdA w wk b4 b5 b6 r1 b2 dd s w1) (by kernel_rfl) (by kernel_rfl) (by kernel_rfl) (by kernel_rfl) (by kernel_rfl) (by kernel_rfl) (by kernel_rfl) ?_ ?_ ?_ ?_ ?_ ?_ ?_
            · exact fun i v w w' c h => rdAP_chg i v w w' c h
            · exact fun _ => relU_refl _ _
            · exact fun i s vs w h => by cases h
            · refine ⟨?_, ?_, ?_, ?_, ?_, ?_, ?_, ?_, ?_, ?_, ?_, trivial⟩
              · exact fun g b h => by (cases h)
              · exact fun g b h => by (cases h)
              · exact fun g b h => by (cases h)
              · exact fun g b h => by (cases h)
              · exact fun g b h => by (cases h)
              · exact fun g b h => by (cases h)
              · exact fun g b h => by (cases h)
              · exact fun g b h => by (cases h)
              · exact fun g b h => by (cases h)
              · exact fun g b h => by (cases h)
              · exact fun g b h => by (cases h)
            · exact fun _ _ => HI.out.keeps (by exact keeps_refl _)
            · refine ⟨?_, ?_, ?_, ?_, ?_, ?_, ?_, ?_, ?_, ?_, ?_, trivial⟩
              · intro _ s hs a w1 vs hI ho hn hu K hK
                have hsb : s ≤ 2 := hs.2 2 (by decide) (by decide +kernel)
                clear hs
                have e10 : a.tmps[10]? = some (.int .i64 (κ : Int)) := ho 10 rfl
                clear hn ho hu
                go_simp
                exact hK _ _ (relU_refl _ _) (hI) rfl
              · intro _ s hs a w1 vs hI ho hn hu K hK
                have hsb : s ≤ 2 := hs.2 2 (by decide) (by decide +kernel)
                clear hs
                obtain ⟨e38, g38⟩ : a.tmps[38]? = some (vs 0) ∧ vs 0 = .int .i64 (κ : Int) := ⟨(hn 0 (by decide)).1 (by decide), (hn 0 (by decide)).2⟩
                rw [g38] at e38
                clear g38
                clear hn ho hu
                have c := HD1.out
                have c2 := HD2.out
                go_simp
                exact hK _ _ (relU_refl _ _) hI rfl
              · intro _ s hs a w1 vs hI ho hn hu K hK
                have hsb : s ≤ 1 := hs.2 1 (by decide) (by decide +kernel)
                clear hs
                have e6 : a.tmps[6]? = some (.pointer (some ⟨b6, 0, none⟩)) := ho 6 rfl
                clear hn ho hu
                have c := rdA_c6 hI
                unfold fnN at c
                go_simp
                exact hK _ _ (relU_refl _ _) hI rfl
              · intro _ s hs a w1 vs hI ho hn hu K hK
                obtain rfl : s = 0 := hs.1 rfl
                clear hs
                have e7 : a.tmps[7]? = some (.func (.func 49) #[] #[.pointer (some ⟨b6, 0, none⟩)]) := ho 7 rfl
                clear hn ho hu
                have hI : InX w wk w1 b4 b5 b6 r1 b2 ⟨#[]⟩ false 0 (.slice none 0 0) := hI
                go_simp
                exact hK _ _ (relU_refl _ _) hI rfl
              · intro _ s hs a w1 vs hI ho hn hu K hK
                obtain rfl : s = 0 := hs.1 rfl
                clear hs
                obtain ⟨e41, g41⟩ : a.tmps[41]? = some (vs 3) ∧ vs 3 = .func (.func 49) #[] #[.pointer (some ⟨b6, 0, none⟩)] := ⟨(hn 3 (by decide)).1 (by decide), (hn 3 (by decide)).2⟩
                rw [g41] at e41
                clear g41
                clear hn ho hu
                have hI : InX w wk w1 b4 b5 b6 r1 b2 ⟨#[]⟩ false 0 (.slice none 0 0) := hI
                go_simp
                refine Calls.mono (nnum_any 1 b4 b5 b6 r1 b2 _ hI.nd.rd hne (by omega) hI.nd.c6) ?_
                rintro e w' ⟨rfl, hs, hch⟩
                go_simp
                exact hK _ _ (relU_call hch hI.nd.rd HLT.out.1 HLT.out.2.1) (InX.step hI HO.out hs hch) rfl
              · intro _ s hs a w1 vs hI ho hn hu K hK
                obtain rfl : s = 1 := hs.1 rfl
                clear hs
                obtain ⟨e40, g40⟩ : a.tmps[40]? = some (vs 2) ∧ vs 2 = .func (.func 48) #[] #[.pointer (some ⟨b4, 0, none⟩), .pointer (some ⟨b5, 0, none⟩)] := ⟨(hn 2 (by decide)).1 (by decide), (hn 2 (by decide)).2⟩
                rw [g40] at e40
                clear g40
                obtain ⟨e42, g42⟩ : a.tmps[42]? = some (vs 4) ∧ vs 4 = .int .i64 ((beN (tkB 1 r1)) : Int) := ⟨(hn 4 (by decide)).1 (by decide), (hn 4 (by decide)).2⟩
                rw [g42] at e42
                clear g42
                clear hn ho hu
                have hI : InX w wk w1 b4 b5 b6 (drB 1 r1) (badB 1 r1 b2) ⟨#[]⟩ false 0 (.slice none 0 0) := hI
                go_simp
                refine Calls.mono (ntake_any (beN (tkB 1 r1)) b4 b5 (drB 1 r1) (badB 1 r1 b2) _ hI.nd.rd hne (by have := tk_lt1 r1; omega)) ?_
                rintro e w' ⟨vb, rfl, hs, hv, hch⟩
                go_simp
                exact hK _ _ (relU_call hch hI.nd.rd HLT.out.1 HLT.out.2.1) (InX.step hI HO.out hs hch) (let ⟨p, q, e⟩ := seq_shape hv.1; ⟨p, q, e, hv⟩)
              · intro _ s hs a w1 vs hI ho hn hu K hK
                have hsb : s ≤ 3 := hs.2 3 (by decide) (by decide +kernel)
                clear hs
                obtain ⟨e43, g43⟩ : a.tmps[43]? = some (vs 5) ∧ ∃ p q, (vs 5) = .slice p (tkB (beN (tkB 1 r1)) (drB 1 r1)).length q ∧ SeqTy 5 IsByte w1.heap (vs 5) (tkB (beN (tkB 1 r1)) (drB 1 r1)) := ⟨(hn 5 (by decide)).1 (by decide), (hn 5 (by decide)).2⟩
                clear hn ho hu
                obtain ⟨p, q, e9, hr⟩ := g43
                rw [e9] at e43 hr
                have hcv := conv_row (P := Tryd.prog) (src := 45) (dst := 9) (e := 5) Tryd.underlying45 (by kernel_rfl) Tryd.underlying9 hr.1
                go_simp
                exact hK _ _ (relU_refl _ _) hI rfl
              · intro _ s hs a w1 vs hI ho hn hu K hK
                have hsb : s ≤ 2 := hs.2 2 (by decide) (by decide +kernel)
                clear hs
                have e9 : a.tmps[9]? = some (.pointer (some ⟨wk.heap.size, 0, none⟩)) := ho 9 rfl
                clear hn ho hu
                go_simp
                exact hK _ _ (relU_refl _ _) (hI) rfl
              · intro _ s hs a w1 vs hI ho hn hu K hK
                obtain rfl : s = 2 := hs.1 rfl
                clear hs
                obtain ⟨e39, g39⟩ : a.tmps[39]? = some (vs 1) ∧ vs 1 = .bool dd := ⟨(hn 1 (by decide)).1 (by decide), (hn 1 (by decide)).2⟩
                rw [g39] at e39
                clear g39
                obtain ⟨e45, g45⟩ : a.tmps[45]? = some (vs 7) ∧ vs 7 = .pointer (some ⟨wk.heap.size, 1, none⟩) := ⟨(hn 7 (by decide)).1 (by decide), (hn 7 (by decide)).2⟩
                rw [g45] at e45
                clear g45
                clear hn ho hu
                have hI : InX w wk w1 b4 b5 b6 (drB (beN (tkB 1 r1)) (drB 1 r1)) (badB (beN (tkB 1 r1)) (drB 1 r1) (badB 1 r1 b2)) ⟨#[]⟩ false 0 (.slice none 0 0) := hI
                have c := hI.xb.cell (i := 1) rfl
                have f := hI.xb.froz 1
                go_simp
                exact hK undef _ (relU_set hI.xb.typ (by decide) HLT.out.2.2) (InX.setF hI 1 _ rfl) rfl
              · intro _ s hs a w1 vs hI ho hn hu K hK
                have hsb : s ≤ 3 := hs.2 3 (by decide) (by decide +kernel)
                clear hs
                have e9 : a.tmps[9]? = some (.pointer (some ⟨wk.heap.size, 0, none⟩)) := ho 9 rfl
                clear hn ho hu
                go_simp
                exact hK _ _ (relU_refl _ _) (hI) rfl
              · intro _ s hs a w1 vs hI ho hn hu K hK
                obtain rfl : s = 3 := hs.1 rfl
                clear hs
                obtain ⟨e44, g44⟩ : a.tmps[44]? = some (vs 6) ∧ vs 6 = .string (strB (tkB (beN (tkB 1 r1)) (drB 1 r1))) := ⟨(hn 6 (by decide)).1 (by decide), (hn 6 (by decide)).2⟩
                rw [g44] at e44
                clear g44
                obtain ⟨e46, g46⟩ : a.tmps[46]? = some (vs 9) ∧ vs 9 = .pointer (some ⟨wk.heap.size, 0, none⟩) := ⟨(hn 9 (by decide)).1 (by decide), (hn 9 (by decide)).2⟩
                rw [g46] at e46
                clear g46
                clear hn ho hu
                have hI : InX w wk w1 b4 b5 b6 (drB (beN (tkB 1 r1)) (drB 1 r1)) (badB (beN (tkB 1 r1)) (drB 1 r1) (badB 1 r1 b2)) ⟨#[]⟩ dd 0 (.slice none 0 0) := hI
                have c := hI.xb.cell (i := 0) rfl
                have f := hI.xb.froz 0
                go_simp
                exact hK undef _ (relU_set hI.xb.typ (by decide) HLT.out.2.2) (InX.setF hI 0 _ rfl) rfl
            intro vs ws hI hG
            have HI : Hid (InX w wk ws b4 b5 b6 (drB (beN (tkB 1 r1)) (drB 1 r1)) (badB (beN (tkB 1 r1)) (drB 1 r1) (badB 1 r1 b2)) (strB (tkB (beN (tkB 1 r1)) (drB 1 r1))) dd 0 (.slice none 0 0)) := hI
            clear hG hI
            simp only [setAll, Nat.zero_add, Nat.reduceAdd, List.setIfInBounds_toArray, List.set_cons_zero, List.set_cons_succ, List.set_nil]
            generalize vs 0 = y0 at *
            generalize vs 1 = y1 at *
            generalize vs 2 = y2 at *
            generalize vs 3 = y3 at *
            generalize vs 4 = y4 at *
            generalize vs 5 = y5 at *
            generalize vs 6 = y6 at *
            generalize vs 7 = y7 at *
            generalize vs 8 = y8 at *
            generalize vs 9 = y9 at *
            generalize vs 10 = y10 at *
            generalize drB (beN (tkB 1 r1)) (drB 1 r1) = r3 at *
            generalize badB (beN (tkB 1 r1)) (drB 1 r1) (badB 1 r1 b2) = b7 at *
            generalize strB (tkB (beN (tkB 1 r1)) (drB 1 r1)) = nm at *
            clear HD1 HD2 HLT
            go_wp2_with fail
            refine Calls.mono (nnum_any 4 b4 b5 b6 _ _ _ HI.out.nd.rd hne (by omega) HI.out.nd.c6) ?_
            rintro e wd ⟨rfl, hs, hch⟩
            have HI := Lib.hid (HI.out.step HO.out hs hch)
            have hz := tk_lt4 r3
            clear hs hch
            generalize beN (tkB 4 r3) = z at *
            generalize drB 4 r3 = r4 at *
            generalize badB 4 r3 b7 = b8 at *
            have c2 : wd.cell? ⟨wk.heap.size, 2, none⟩ = some (.int .i64 0) := HI.out.xb.cell rfl
            have f2 := HI.out.xb.froz 2
            have HI := Lib.hid (HI.out.setF 2 (.int .i64 (z : Int)) (z' := (z : Int)) (nm' := nm) (d' := dd) (cv' := .slice none 0 0) rfl)
            go_wp2_with fail
            clear c2 f2
            refine Calls.mono (nnum_any 2 b4 b5 b6 _ _ _ HI.out.nd.rd hne (by omega) HI.out.nd.c6) ?_
            rintro e we ⟨rfl, hs, hch⟩
            have HI := Lib.hid (HI.out.step HO.out hs hch)
            have hm := tk_lt2 r4
            clear hs hch
            generalize beN (tkB 2 r4) = m at *
            generalize drB 2 r4 = r5 at *
            generalize badB 2 r4 b8 = b9 at *
            obtain ⟨FC, hFC⟩ : ∃ F, chS m [] r5 b9 = F := ⟨_, rfl⟩
            rw [hFC] at HEN
            have HFC := Lib.hid hFC
            clear hFC
            go_upto_block 2 with fail
            go_cut [] (fun wx => ∃ (c : List ByteArray) (r : List UInt8) (bad : Bool) (cv : Value), Hid (FC = (c, r, bad)) ∧ Hid (c.length ≤ 65535) ∧ Hid (InX w wk wx b4 b5 b6 r bad nm dd z cv) ∧ Hid (ChN wk wx cv c))
            case first =>
              go_wp2_with fail
              go_loopw [52] (fun i wq => ∃ (j : Nat) (c : List ByteArray) (r : List UInt8) (bad : Bool) (cv : Value), j ≤ m ∧ i = .int .i64 j ∧ c.length ≤ j ∧ Hid (chS (m - j) c r bad = FC) ∧ Hid (InX w wk wq b4 b5 b6 r bad nm dd z cv) ∧ Hid (ChN wk wq cv c)) (fun i _ => m - (intOf i).toNat)
              case atStart => exact ⟨0, [], r5, b9, .slice none 0 0, by omega, rfl, by simp, HFC.out, HI.out, OwnSeq.nil _ _ _ _⟩
              case round =>
                obtain ⟨j, c, r, bad, cv, hj, rfl, hcl, HE, HI, HC⟩ := hrel
                obtain ⟨wq, rfl⟩ : ∃ wy : World, wy = wr := ⟨_, rfl⟩
                clear HFC
                have c5 := HI.out.nd.rd.c6
                by_cases hjm : j < m
                · cases bad with
                  | true =>
                    have HF : Hid (FC = (c, r, true)) := by show _ = _; rw [← HE.out, chS_stop]
                    have HL : Hid (c.length ≤ 65535) := by show _ ≤ _; omega
                    go_wp2_with fail
                    go_meet
                    exact ⟨c, r, true, cv, HF, HL, HI, HC⟩
                  | false =>
                    have HE3 : Hid (chS (m - (j + 1)) (c ++ [strB (tkB 32 r)]) (drB 32 r) (badB 32 r false) = FC) := by
                      show _ = _
                      rw [← chS_next, ← HE.out]; congr 1; omega
                    obtain ⟨pc, qc, rfl⟩ : ∃ p q, cv = .slice p c.length q := by
                      obtain ⟨us, h1, h2, _⟩ := HC.out
                      obtain ⟨p, q, e⟩ := own_slice9 h1
                      exact ⟨p, q, by rw [e, h2]⟩
                    have HLQ : Hid (b4 < wq.heap.size ∧ b5 < wq.heap.size ∧ wk.heap.size < wq.heap.size) := ⟨HI.out.nd.lt.1, HI.out.nd.lt.2.1, HI.out.lt⟩
                    have HCL : Hid (c.length ≤ 65535) := by show _ ≤ _; omega
                    have HOB : Hid (∀ k, (Value.slice pc c.length qc).ownBlock = some k → k < wq.heap.size) := by
                      obtain ⟨us, h1, _, _⟩ := HC.out
                      exact fun k hk => (own_block h1 k hk).2.1
                    have hcl2 : (c ++ [strB (tkB 32 r)]).length ≤ j + 1 := by rw [List.length_append]; simp; omega
                    clear HE
                    go_upto_region 18 with (fail)
                    clear c5
                    refine wp_region_stageG [55, 56, 57, 58, 59, 60, 61, 62, 10008] [[], [0], [], [2], [3], [4], [1, 5], [], [6, 7]] [3, 6, 8] [0, 0, 0, 0, 1, 1, 1, 0, 2] [] [0, 1, 7] [8] (rdBP b4 b5 b6 wk.heap.size wq.heap.size c.length r pc qc) (RelU wq.heap.size) (rdB w wk wq.heap.size b4 b5 b6 c.length r nm dd z pc qc c) (by kernel_rfl) (by kernel_rfl) (by kernel_rfl) (by kernel_rfl) (by kernel_rfl) (by kernel_rfl) (by kernel_rfl) ?_ ?_ ?_ ?_ ?_ ?_ ?_
                    · exact fun i v w w' c h => rdBP_chg i v w w' c h
                    · exact fun _ => relU_refl _ _
                    · exact fun i s vs w h => by cases h
                    · refine ⟨?_, ?_, ?_, ?_, ?_, ?_, ?_, ?_, ?_, trivial⟩
                      · exact fun g b h => by (cases h)
                      · exact fun g b h => by (cases h)
                      · exact fun g b h => by (cases h)
                      · exact fun g b h => by (cases h)
                      · exact fun g b h => by (cases h)
                      · exact fun g b h => by (cases h)
                      · exact fun g b h => by (cases h)
                      · exact fun g b h => by (cases h)
                      · exact fun g b h => by (cases h)
                    · exact fun _ _ => ⟨HI.out.keeps (by exact keeps_refl _), ChN.keeps HC.out (by exact keeps_refl _), Nat.le_refl _⟩
                    · refine ⟨?_, ?_, ?_, ?_, ?_, ?_, ?_, ?_, ?_, trivial⟩
                      · intro _ s hs a w1 vs hI ho hn hu K hK
                        have hsb : s ≤ 1 := hs.2 1 (by decide) (by decide +kernel)
                        clear hs
                        have e9 : a.tmps[9]? = some (.pointer (some ⟨wk.heap.size, 0, none⟩)) := ho 9 rfl
                        clear hn ho hu
                        go_simp
                        exact hK _ _ (relU_refl _ _) (rdB_upd hI (by decide)) rfl
                      · intro _ s hs a w1 vs hI ho hn hu K hK
                        have hsb : s ≤ 1 := hs.2 1 (by decide) (by decide +kernel)
                        clear hs
                        obtain ⟨e55, g55⟩ : a.tmps[55]? = some (vs 0) ∧ vs 0 = .pointer (some ⟨wk.heap.size, 3, none⟩) := ⟨(hn 0 (by decide)).1 (by decide), (hn 0 (by decide)).2⟩
                        rw [g55] at e55
                        clear g55
                        clear hn ho hu
                        have c := rdB_ld hI hsb
                        go_simp
                        exact hK _ _ (relU_refl _ _) (rdB_upd hI (by decide)) rfl
                      · intro _ s hs a w1 vs hI ho hn hu K hK
                        obtain rfl : s = 0 := hs.1 rfl
                        clear hs
                        have e6 : a.tmps[6]? = some (.pointer (some ⟨b6, 0, none⟩)) := ho 6 rfl
                        clear hn ho hu
                        have hI : InX w wk w1 b4 b5 b6 r false nm dd z (.slice pc c.length qc) ∧ ChN wk w1 (.slice pc c.length qc) c ∧ wq.heap.size ≤ w1.heap.size := hI
                        have c := hI.1.nd.c6
                        unfold fnN at c
                        go_simp
                        exact hK _ _ (relU_refl _ _) hI rfl
                      · intro _ s hs a w1 vs hI ho hn hu K hK
                        obtain rfl : s = 0 := hs.1 rfl
                        clear hs
                        obtain ⟨e57, g57⟩ : a.tmps[57]? = some (vs 2) ∧ vs 2 = .func (.func 48) #[] #[.pointer (some ⟨b4, 0, none⟩), .pointer (some ⟨b5, 0, none⟩)] := ⟨(hn 2 (by decide)).1 (by decide), (hn 2 (by decide)).2⟩
                        rw [g57] at e57
                        clear g57
                        clear hn ho hu
                        have hI : InX w wk w1 b4 b5 b6 r false nm dd z (.slice pc c.length qc) ∧ ChN wk w1 (.slice pc c.length qc) c ∧ wq.heap.size ≤ w1.heap.size := hI
                        go_simp
                        refine Calls.mono (ntake_any 32 b4 b5 r false _ hI.1.nd.rd hne (by omega)) ?_
                        rintro e w' ⟨vb, rfl, hs, hv, hch⟩
                        go_simp
                        exact hK _ _ (relU_call hch hI.1.nd.rd HLQ.out.1 HLQ.out.2.1) ⟨InX.step hI.1 HO.out hs hch, ChN.step hI.2.1 hI.1 hch, Nat.le_trans hI.2.2 hch.size⟩ (let ⟨p, q, e⟩ := seq_shape hv.1; ⟨p, q, e, hv⟩)
                      · intro _ s hs a w1 vs hI ho hn hu K hK
                        obtain rfl : s = 1 := hs.1 rfl
                        clear hs
                        obtain ⟨e58, g58⟩ : a.tmps[58]? = some (vs 3) ∧ ∃ p q, (vs 3) = .slice p (tkB 32 r).length q ∧ SeqTy 5 IsByte w1.heap (vs 3) (tkB 32 r) := ⟨(hn 3 (by decide)).1 (by decide), (hn 3 (by decide)).2⟩
                        clear hn ho hu
                        have hI : InX w wk w1 b4 b5 b6 (drB 32 r) (badB 32 r false) nm dd z (.slice pc c.length qc) ∧ ChN wk w1 (.slice pc c.length qc) c ∧ wq.heap.size ≤ w1.heap.size := hI
                        obtain ⟨p, q, e9, hr⟩ := g58
                        rw [e9] at e58 hr
                        have hcv := conv_row (P := Tryd.prog) (src := 45) (dst := 9) (e := 5) Tryd.underlying45 (by kernel_rfl) Tryd.underlying9 hr.1
                        go_simp
                        exact hK _ _ (relU_refl _ _) hI rfl
                      · intro _ s hs a w1 vs hI ho hn hu K hK
                        obtain rfl : s = 1 := hs.1 rfl
                        clear hs
                        obtain ⟨e59, g59⟩ : a.tmps[59]? = some (vs 4) ∧ vs 4 = .string (strB (tkB 32 r)) := ⟨(hn 4 (by decide)).1 (by decide), (hn 4 (by decide)).2⟩
                        rw [g59] at e59
                        clear g59
                        clear hn ho hu
                        have hI : InX w wk w1 b4 b5 b6 (drB 32 r) (badB 32 r false) nm dd z (.slice pc c.length qc) ∧ ChN wk w1 (.slice pc c.length qc) c ∧ wq.heap.size ≤ w1.heap.size := hI
                        go_simp
                        exact hK _ _ (relU_keeps (kal _ _)) ⟨InX.keeps hI.1 (kal _ _), ChN.keeps hI.2.1 (kal _ _), Nat.le_trans hI.2.2 (kal _ _).size⟩ ⟨_, rfl, hI.2.2, BlkAt.new _ _ _⟩
                      · intro _ s hs a w1 vs hI ho hn hu K hK
                        obtain rfl : s = 1 := hs.1 rfl
                        clear hs
                        obtain ⟨e56, g56⟩ : a.tmps[56]? = some (vs 1) ∧ vs 1 = .slice pc c.length qc := ⟨(hn 1 (by decide)).1 (by decide), (hn 1 (by decide)).2⟩
                        rw [g56] at e56
                        clear g56
                        obtain ⟨e60, g60⟩ : a.tmps[60]? = some (vs 5) ∧ ∃ q, (vs 5) = .slice (some ⟨q, 0, none⟩) 1 1 ∧ wq.heap.size ≤ q ∧ BlkAt w1 q 9 #[.string (strB (tkB 32 r))] := ⟨(hn 5 (by decide)).1 (by decide), (hn 5 (by decide)).2⟩
                        clear hn ho hu
                        have hI : InX w wk w1 b4 b5 b6 (drB 32 r) (badB 32 r false) nm dd z (.slice pc c.length qc) ∧ ChN wk w1 (.slice pc c.length qc) c ∧ wq.heap.size ≤ w1.heap.size := hI
                        obtain ⟨q, r9, hq, gb⟩ := g60
                        rw [r9] at e60
                        obtain ⟨us, hu1, hu2, hu3⟩ := hI.2.1
                        have hul : us.length = c.length := hu2
                        refine oper_appr1 elTextK rfl (.tmp 56) (.tmp 60) rfl wk.heap.size (.slice pc c.length qc) us.length us (by simp [Act.eval, e56]) hu1 q [.string (strB (tkB 32 r))] (by simp [Act.eval, e60]) rfl (blk_cells gb) (by intro y hy; simp at hy; subst hy; rfl) (by have := HCL.out; omega) (Nat.le_of_lt hI.1.lt) ?_
                        intro v' w' ho hc
                        exact hK v' w' (relU_own hc hu1 HOB.out) ⟨InX.grow hI.1 hc (fun k hk => let ⟨a, _, d⟩ := own_block hu1 k hk; ⟨a, d⟩), by rw [upd_self]; exact OwnSeq.push hu2 hu3 ho (fun _ _ _ x => x) rfl⟩ (let ⟨p, q, e⟩ := own_slice9 ho; ⟨p, q, by rw [e, hul]⟩)
                      · intro _ s hs a w1 vs hI ho hn hu K hK
                        have hsb : s ≤ 2 := hs.2 2 (by decide) (by decide +kernel)
                        clear hs
                        have e9 : a.tmps[9]? = some (.pointer (some ⟨wk.heap.size, 0, none⟩)) := ho 9 rfl
                        clear hn ho hu
                        go_simp
                        exact hK _ _ (relU_refl _ _) (rdB_upd hI (by decide)) rfl
                      · intro _ s hs a w1 vs hI ho hn hu K hK
                        obtain rfl : s = 2 := hs.1 rfl
                        clear hs
                        obtain ⟨e61, g61⟩ : a.tmps[61]? = some (vs 6) ∧ ∃ p q, (vs 6) = .slice p (c.length + 1) q := ⟨(hn 6 (by decide)).1 (by decide), (hn 6 (by decide)).2⟩
                        obtain ⟨e62, g62⟩ : a.tmps[62]? = some (vs 7) ∧ vs 7 = .pointer (some ⟨wk.heap.size, 3, none⟩) := ⟨(hn 7 (by decide)).1 (by decide), (hn 7 (by decide)).2⟩
                        rw [g62] at e62
                        clear g62
                        clear hn ho hu
                        have hI : InX w wk w1 b4 b5 b6 (drB 32 r) (badB 32 r false) nm dd z (.slice pc c.length qc) ∧ ChN wk w1 (vs 6) (c ++ [(strB (tkB 32 r))]) := hI
                        obtain ⟨p, q, r9⟩ := g61
                        rw [r9] at e61
                        have c := hI.1.xb.cell (i := 3) rfl
                        have f := hI.1.xb.froz 3
                        go_simp
                        refine hK undef _ (relU_set hI.1.xb.typ (by decide) HLQ.out.2.2) ?_ rfl
                        rw [← r9]
                        exact ⟨InX.setF hI.1 3 _ rfl, ChN.setF hI.2 hI.1 3 _⟩
                    intro vs ws hI hG
                    obtain ⟨hx, hc⟩ : InX w wk ws b4 b5 b6 (drB 32 r) (badB 32 r false) nm dd z (vs 6) ∧ ChN wk ws (vs 6) (c ++ [(strB (tkB 32 r))]) := hI
                    clear hG
                    simp only [setAll, Nat.zero_add, Nat.reduceAdd, List.setIfInBounds_toArray, List.set_cons_zero, List.set_cons_succ, List.set_nil]
                    generalize vs 0 = y0 at *
                    generalize vs 1 = y1 at *
                    generalize vs 2 = y2 at *
                    generalize vs 3 = y3 at *
                    generalize vs 4 = y4 at *
                    generalize vs 5 = y5 at *
                    generalize vs 6 = y6 at *
                    generalize vs 7 = y7 at *
                    generalize vs 8 = y8 at *
                    have HI9 := Lib.hid hx
                    have HC9 := Lib.hid hc
                    clear hx hc
                    generalize (c ++ [strB (tkB 32 r)]) = c2 at *
                    generalize drB 32 r = r6 at *
                    generalize badB 32 r false = b10 at *
                    go_wp2_with fail
                    refine ⟨?_, by simp [intOf]; omega⟩
                    first | exact ⟨j + 1, c2, r6, b10, _, by omega, by go_num, hcl2, HE3, HI9, HC9⟩ | ((repeat apply Exists.intro); exact ⟨⟨j + 1, c2, r6, b10, _, by omega, by go_num, hcl2, HE3, HI9, HC9⟩, rfl⟩)
                · obtain rfl : j = m := by omega
                  have HF : Hid (FC = (c, r, bad)) := by show _ = _; rw [← HE.out, Nat.sub_self, chS_zero]
                  have HL : Hid (c.length ≤ 65535) := by show _ ≤ _; omega
                  go_wp2_with fail
                  go_meet
                  exact ⟨c, r, bad, cv, HF, HL, HI, HC⟩
            case rest =>
            obtain ⟨wx, rfl⟩ : ∃ wy : World, wy = wc := ⟨_, rfl⟩
            obtain ⟨c, r', bad', cv, HF, HCL, HI, HC⟩ := hcut
            obtain ⟨pc, qc, rfl⟩ : ∃ p q, cv = .slice p c.length q := by
              obtain ⟨us, h1, h2, _⟩ := HC.out
              obtain ⟨p, q, e⟩ := own_slice9 h1
              exact ⟨p, q, by rw [e, h2]⟩
            have HCS : Hid (SeqIn (w.heap.size ≤ ·) 9 IsText wx.heap (.slice pc c.length qc) c) := (OwnSeq.seq HC.out (by have := HCL.out; omega)).mono (fun b hb => Nat.le_trans HI.out.l0 hb) fun _ _ x => x
            have HCQ : Hid (c.length ≤ qc) := by
              obtain ⟨us, h1, h2, _⟩ := HC.out
              obtain ⟨p, q, e, hq⟩ := own_sliceC h1
              injection e with e1 e2 e3
              subst e3
              show _ ≤ _; omega
            have HO2 : OutN w wx u8 acc := OwnRec.chg HOr.out HI.out.ch (fun q _ _ ht e => no_entry HXQ.out (.inl ht) e) fun a b _ x => IsEntT.chg x HI.out.ch fun b _ _ ht e => no_entry HXQ.out (.inr ht) e
            have HE4 : Hid (elS (M - (k + 1)) (acc ++ [⟨nm, dd, (z : Int), c⟩]) r' bad' = FN) := by show _ = _; rw [← HE2.out, HEN.out, HF.out]
            have hal2 : (acc ++ [(⟨nm, dd, (z : Int), c⟩ : EntR)]).length ≤ k + 1 := by rw [List.length_append]; simp; omega
            obtain ⟨us, hu1, hu2, hu3⟩ := HO2
            obtain ⟨pv, qv, rfl⟩ := own_slice9 hu1
            have HU := Lib.hid hu1
            have HL2 := Lib.hid hu2
            have H3 := Lib.hid hu3
            have hul : us.length ≤ 65536 := by omega
            have d0 : wx.cell? ⟨wk.heap.size, 0, none⟩ = some (.string nm) := HI.out.xb.cell rfl
            have d1 : wx.cell? ⟨wk.heap.size, 1, none⟩ = some (.bool dd) := HI.out.xb.cell rfl
            have d2 : wx.cell? ⟨wk.heap.size, 2, none⟩ = some (.int .i64 (z : Int)) := HI.out.xb.cell rfl
            have d3 : wx.cell? ⟨wk.heap.size, 3, none⟩ = some (.slice pc c.length qc) := HI.out.xb.cell rfl
            have hws := HI.out.nd.lt.2.2.2
            clear hu1 hu2 hu3 HE2 HEN HF HC HCL HFC
            go_wp2_with (at_builtin; refine wp_appr1 elEntG rfl (.tmp 64) (.tmp 66) rfl w.heap.size (.slice pv us.length qv) us.length us.flatten rfl (HU.out.alloc _) wx.heap.size [.string nm, .bool dd, .int .i64 (z : Int), .slice pc c.length qc] rfl rfl (blk_cells (heap_alloc_new _ _)) (fun y hy => by simp at hy; rcases hy with rfl | rfl | rfl | rfl <;> rfl) (by omega) (by simp; omega) ?_; intro v' w6 hown hchg; have HX9 : Hid (NdX w w6 b4 b5 b6 r' bad') := ndx_push HI.out.nd (kal _ _) HU.out hchg; have HO9 : Hid (OutN w w6 v' (acc ++ [⟨nm, dd, (z : Int), c⟩])) := out_push HL2.out H3.out HU.out (kal _ _) hown hchg HCS.out HCQ.out; clear hown hchg)
            clear d0 d1 d2 d3
            refine ⟨?_, by simp [intOf]; omega⟩
            first | exact ⟨k + 1, _, r', bad', by omega, by go_num, hal2, HE4, HX9, HO9⟩ | ((repeat apply Exists.intro); exact ⟨⟨k + 1, _, r', bad', by omega, by go_num, hal2, HE4, HX9, HO9⟩, rfl⟩)
        · obtain rfl : k = M := by omega
          have HF : Hid (FN = (acc, r, bad)) := by show _ = _; rw [← HE.out, Nat.sub_self, elS_zero]
          go_wp2_with fail
          go_meet
          exact ⟨acc, r, bad, HF, by omega, HXr, HOr⟩
    case rest =>
      obtain ⟨wx, rfl⟩ : ∃ wy : World, wy = wc := ⟨_, rfl⟩
      obtain ⟨acc, r, bad, HF, hal, HXr, HOr⟩ := hcut
      have HR2 : Hid (readP S = if bad || decide (0 < r.length) || !mayL acc then none else some acc) := by show _ = _; rw [HRP.out, HF.out]
      have HEA : Hid (EntsAt wx.heap u8 acc) := (OwnRec.seq HOr.out (by omega)).at_.imp (fun _ _ _ e => e) fun _ _ _ x => IsEntT.at_ x
      obtain ⟨pr, qr, c4, -, -⟩ := HXr.out.rd.row
      have c5 := HXr.out.rd.c6
      clear HX HFN HRP HF
      cases bad with
      | true =>
        have HN : Hid (readP S = none) := by show _ = _; rw [HR2.out]; rfl
        clear HR2 c4
        go_wp2_with fail
        go_ret2
        exact ⟨HXr.out.kp, .inl ⟨by rw [HSS.out]; exact HN.out, rfl⟩⟩
      | false =>
        by_cases h7 : r.length = 0
        · rw [h7] at c4
          have HN : Hid (readP S = if !mayL acc then none else some acc) := by show _ = _; rw [HR2.out, h7]; rfl
          clear HR2 h7
          go_wp2_with fail
          refine Calls.mono (nmay_any u8 acc wx HEA.out) ?_
          rintro e wm ⟨rfl, hk⟩
          have HKM := Lib.hid hk
          clear c4 c5 hk
          cases hm : mayL acc with
          | false =>
            have HN2 : Hid (readP S = none) := by show _ = _; rw [HN.out, hm]; rfl
            clear HN hm
            go_wp2_with fail
            go_ret2
            exact ⟨HXr.out.kp.trans HKM.out, .inl ⟨by rw [HSS.out]; exact HN2.out, rfl⟩⟩
          | true =>
            have HN2 : Hid (readP S = some acc) := by show _ = _; rw [HN.out, hm]; rfl
            clear HN hm
            go_wp2_with fail
            go_ret2
            exact ⟨HXr.out.kp.trans HKM.out, .inr ⟨acc, u8, by rw [HSS.out]; exact HN2.out, rfl, OwnRec.keeps HOr.out HKM.out fun a b _ x => IsEntT.chg (T := fun _ => False) x (Kept.any HKM.out) fun _ _ _ _ x => x⟩⟩
        · have HN : Hid (readP S = none) := by
            show _ = _
            rw [HR2.out, decide_eq_true (by omega : 0 < r.length)]; rfl
          have g7 : (0 : Int) < (r.length : Int) := by omega
          have g8 : decide ((0 : Int) < (r.length : Int)) = true := decide_eq_true g7
          clear HR2
          go_wp2_with fail
          go_ret2
          exact ⟨HXr.out.kp, .inl ⟨by rw [HSS.out]; exact HN.out, rfl⟩⟩
end Go.Proofs.YtdpfanifagfciaaDoor
