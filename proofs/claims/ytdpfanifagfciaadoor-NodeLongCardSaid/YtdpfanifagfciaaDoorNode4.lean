/- The walk of node.Make. Printed by genmk19.py. -/
import Derived.Test.YtdpfanifagfciaaDoorNode3
import Derived.Test.YtdpfanifagfciaaDoorBuild
namespace Go.Proofs.YtdpfanifagfciaaDoor
open Go.RowKit
attribute [local go_sem ↓] Go.wp_at_zero Go.wp_at_succ
/-- An entry's bytes. -/
def kindB (x : EntR) : Nat := if x.d then 1 else 0
def flatC (c : List ByteArray) : List UInt8 := (c.map (·.data.toList)).flatten
def entB (x : EntR) : List UInt8 := numB (kindB x) 1 ++ numB x.n.size 1 ++ x.n.data.toList ++ numB x.z.toNat 4 ++ numB x.c.length 2 ++ flatC x.c
def makeTo (l : List EntR) (k : Nat) : List UInt8 := [100, 105, 114, 49] ++ numB l.length 2 ++ ((l.take k).map entB).flatten
def makeB (l : List EntR) : List UInt8 := makeTo l l.length
/-- A directory's bytes, or how it is refused. -/
def makeE (l : List EntR) : ByteArray × Int := if mayL l then (if 16384 < (makeB l).length then (⟨#[]⟩, 40) else (strB (makeB l), 0)) else (⟨#[]⟩, 4)
theorem makeTo_succ {l : List EntR} {k : Nat} (h : k < l.length) : makeTo l (k + 1) = makeTo l k ++ entB (eAt l k) := by
  unfold makeTo
  rw [take_eAt h, List.map_append, List.flatten_append]; simp
theorem join_flatC : ∀ xs : List (List UInt8), Lib.join xs [] = xs.flatten
  | [] => rfl
  | x :: xs => by
    have ih := join_flatC xs
    unfold Lib.join at *
    cases xs with
    | nil => simp
    | cons y xs => 
      show x ++ ([] ++ (List.intersperse [] (y :: xs)).flatten) = _
      rw [show (List.intersperse [] (y :: xs)).flatten = (y :: xs).flatten from ih]; rfl
theorem textcell0 {w : World} {p : Option Addr} {n c : Nat} {l : List ByteArray} (s : SeqAt IsText w.heap (.slice p n c) l) (h0 : 0 < l.length) : ∃ b off, p = some ⟨b, off, none⟩ ∧ n = l.length := by
  obtain ⟨b, off, c', u, e, _, _⟩ := seq_cell s h0
  injection e with e1 e2 _
  exact ⟨b, off, e1, e2⟩
theorem joinc_any (p : Option Addr) (q : Nat) (xs : List ByteArray) (w : World) (h : SeqAt IsText w.heap (.slice p xs.length q) xs) (hc : xs.length ≤ q) (hN : xs.length ≤ 1000000) (hlen : (flatC xs).length ≤ 140737488355328) :
    Calls Tryd.prog 52 #[.slice p xs.length q, .string ⟨#[]⟩] w fun e w' => e = .returned (.string (strB (flatC xs))) ∧ Keeps w w' := by
  rcases Nat.eq_zero_or_pos xs.length with h0 | h0
  · obtain rfl := List.length_eq_zero_iff.1 h0
    exact (Sh.strings_Join_none p q ⟨#[]⟩ w).mono fun e w' ⟨h1, h2⟩ => ⟨h1, by rw [h2]; exact keeps_refl _⟩
  · obtain ⟨b, o, rfl, _⟩ := textcell0 h h0
    have hcell : ∀ (j : Nat) x, xs[j]? = some x → w.cell? ⟨b, o + j, none⟩ = some (.string x) := fun j x hj => by
      obtain ⟨hj1, hj2⟩ := List.getElem?_eq_some_iff.1 hj
      obtain ⟨u, h1, h2⟩ := seq_at h hj1
      rw [h1, h2, hj2]
    have hb : b < w.heap.size := by
      obtain ⟨u, h1, _⟩ := seq_at h h0
      exact cell_lt h1
    have e0 : (⟨#[]⟩ : ByteArray).data.toList = [] := rfl
    refine (Sh.strings_Join b o q xs ⟨#[]⟩ w hcell hb (by omega) hc (by rw [e0, join_flatC]; exact hlen)).mono fun e w' ⟨h1, h2⟩ => ⟨?_, h2.kept⟩
    rw [h1, e0, join_flatC]; rfl
/-- What may be: its numbers. -/
theorem mayE_nums {x : EntR} (h : mayE x = true) : 0 ≤ x.z ∧ x.z ≤ 16384 ∧ x.c.length ≤ 16384 ∧ x.n.size ≤ 96 ∧ ∀ s ∈ x.c, s.size = 32 := by
  unfold mayE at h
  rw [Bool.and_eq_true, Bool.not_eq_true', Bool.or_eq_false_iff, Bool.or_eq_false_iff, Bool.not_eq_false'] at h
  obtain ⟨⟨⟨h1, _⟩, h3⟩, h4⟩ := h
  have hn := (mayPath_iff.1 h1).1
  rw [data_size] at hn
  have hc : ∀ s ∈ x.c, s.size = 32 := fun s hs => by
    have := List.any_eq_false.1 h3 s hs
    unfold oddC at this
    simpa using this
  cases hd : x.d with
  | true =>
    rw [hd] at h4
    simp at h4
    exact ⟨by omega, by omega, by omega, hn, hc⟩
  | false =>
    rw [hd] at h4
    simp at h4
    exact ⟨by omega, by omega, by omega, hn, hc⟩
theorem flatC_length {c : List ByteArray} (h : ∀ s ∈ c, s.size = 32) : (flatC c).length = 32 * c.length := by
  induction c with
  | nil => rfl
  | cons s c ih =>
    have h1 := h s (List.mem_cons_self ..)
    have h2 := ih fun y hy => h y (List.mem_cons_of_mem _ hy)
    unfold flatC at *
    rw [List.map_cons, List.flatten_cons, List.length_append, h2, data_size, h1, List.length_cons]; omega
theorem entB_length {x : EntR} (h : mayE x = true) : (entB x).length = 8 + x.n.size + 32 * x.c.length := by
  unfold entB
  simp only [List.length_append, numB_length, data_size, flatC_length (mayE_nums h).2.2.2.2]
  omega
theorem mayL_at {l : List EntR} (h : mayL l = true) {k : Nat} (hk : k < l.length) : mayE (eAt l k) = true := by
  unfold mayL at h
  rw [Bool.and_eq_true, List.all_eq_true] at h
  have := h.2 k (List.mem_range.2 hk)
  unfold okE at this
  rw [Bool.and_eq_true] at this
  exact this.1
theorem makeTo_length {l : List EntR} (h : mayL l = true) : ∀ k, k ≤ l.length → (makeTo l k).length ≤ 6 + k * 600000
  | 0, _ => by unfold makeTo; simp [numB_length]
  | k + 1, hk => by
    have ih := makeTo_length h k (by omega)
    rw [makeTo_succ (by omega), List.length_append, entB_length (mayL_at h (by omega))]
    obtain ⟨_, _, h3, h4, _⟩ := mayE_nums (mayL_at h (show k < l.length by omega))
    omega
theorem Bld.keeps {B b : Nat} {l : List UInt8} {w w' : World} (h : Bld B b l w) (c : Keeps w w') : Bld B b l w' := by
  have key : ∀ p, Lib.BuilderAtF 70 5 B b p (Lib.byteCells l) w → Lib.BuilderAtF 70 5 B b p (Lib.byteCells l) w' := by
    rintro p ⟨h1, v, h2, h3, h4⟩
    have hlt : b < w.heap.size := (Array.getElem?_eq_some_iff.1 h2).1
    refine ⟨h1, v, ?_, ?_, h4⟩
    · rw [c.2.2.2.2 b hlt]; exact h2
    · obtain ⟨k1, k2⟩ := h3
      refine ⟨k1, ?_⟩
      rcases k2 with k2 | ⟨g, cap, cur, fz, e, hg, hh, r⟩
      · exact .inl k2
      · refine .inr ⟨g, cap, cur, fz, e, hg, ?_, r⟩
        have hlg : g < w.heap.size := (Array.getElem?_eq_some_iff.1 hh).1
        rw [c.2.2.2.2 g hlg]; exact hh
  exact h.elim (fun x => .inl (key _ x)) (fun x => .inr (key _ x))
def mk19I (wf wm : World) (Bk : Nat) (pre : List UInt8) (T46 : ByteArray) : Nat → (Nat → Value) → World → Prop
  | 0, _, w' => Keeps wf w'
  | _, _, w' => Bld Bk Bk (pre ++ T46.data.toList) w' ∧ Keeps wm w' 
def mk19F (F Bk m qc zn : Nat) (pc : Option Addr) (n T25 T29 T30 T33 T36 T37 T41 T42 T45 T46 : ByteArray) : Nat → Value → Prop
  | i, v => v = ([.int .i64 0, .string T25, .pointer (some ⟨F, 0, none⟩), .string n, .int .i64 (n.size : Int), .string T29, .string T30, .pointer (some ⟨F, 0, none⟩), .string n, .string T33, .pointer (some ⟨F, 2, none⟩), .int .i64 (zn : Int), .string T36, .string T37, .pointer (some ⟨F, 3, none⟩), .slice pc m qc, .int .i64 (m : Int), .string T41, .string T42, .pointer (some ⟨F, 3, none⟩), .slice pc m qc, .string T45, .string T46, .tuple #[.int .i64 (T46.size : Int), .nilIface]] : List Value).getD i undef
def mk19T (F Bk m qc zn : Nat) (pc : Option Addr) (n T25 T29 T30 T33 T36 T37 T41 T42 T45 T46 : ByteArray) : Nat → Value → Prop
  | i, v => v = ([.int .i64 1, .string T25, .pointer (some ⟨F, 0, none⟩), .string n, .int .i64 (n.size : Int), .string T29, .string T30, .pointer (some ⟨F, 0, none⟩), .string n, .string T33, .pointer (some ⟨F, 2, none⟩), .int .i64 (zn : Int), .string T36, .string T37, .pointer (some ⟨F, 3, none⟩), .slice pc m qc, .int .i64 (m : Int), .string T41, .string T42, .pointer (some ⟨F, 3, none⟩), .slice pc m qc, .string T45, .string T46, .tuple #[.int .i64 (T46.size : Int), .nilIface]] : List Value).getD i undef
set_option maxRecDepth 100000 in
set_option maxHeartbeats 8000000 in
theorem nmake_any (v : Value) (l : List EntR) (w : World) (h : EntsAt w.heap v l) : Calls Tryd.prog 20 #[v] w fun e w' => e = .returned (.tuple #[.string (makeE l).1, .int .i64 (makeE l).2]) ∧ Keeps w w' := by
  obtain ⟨p, q, rfl⟩ := rec_shape h
  have H := Lib.hid h
  clear h
  cases hm : mayL l with
  | false =>
    have HE : Hid (makeE l = (⟨#[]⟩, 4)) := by show _ = _; unfold makeE; rw [hm]; rfl
    have HM := Lib.hid hm
    clear hm
    go_enter Tryd.func20, Tryd.ntmps20
    go_wp2_with fail
    refine Calls.mono (nmay_any _ l _ H.out) ?_
    rintro e wm ⟨rfl, hk⟩
    rw [HM.out]
    go_wp2_with fail
    go_ret2
    rw [HE.out]
    exact ⟨rfl, hk⟩
  | true =>
  have HM := Lib.hid hm
  have hl256 : l.length ≤ 256 := by unfold mayL at hm; rw [Bool.and_eq_true, decide_eq_true_eq] at hm; exact hm.1
  clear hm
  have HN2 := Lib.hid (fun wx => number_any l.length 2 wx (by omega) (by omega))
  go_enter Tryd.func20, Tryd.ntmps20
  go_wp2_with fail
  refine Calls.mono (nmay_any _ l _ H.out) ?_
  rintro e wm ⟨rfl, hk⟩
  rw [HM.out]
  have HK1 := Lib.hid hk
  clear hk
  go_wp2_with fail
  refine Calls.mono (HN2.out _) ?_
  rintro e w2 ⟨rfl, hk⟩
  have HB2 := Lib.hid (Bld.keeps (Bld.new wm) hk)
  have HK2 : Hid (Keeps wm w2) := Keeps.trans (kal _ _) hk
  have hsz2 : wm.heap.size < w2.heap.size := by have := hk.size; simp at this; omega
  clear hk HN2
  obtain ⟨Y, hY⟩ : ∃ Y, (⟨#[100, 105, 114, 49]⟩ : ByteArray) ++ strB (numB l.length 2) = Y := ⟨_, rfl⟩
  have hz2 : (strB (numB l.length 2)).size = 2 := by rw [strB_size, numB_length]
  have HY : Hid (Y.data.toList = makeTo l 0) := by show _ = _; rw [← hY]; unfold makeTo strB; simp
  have HYS : Hid (Y.size = 6) := by show _ = _; rw [← hY, ByteArray.size_append, hz2]; rfl
  generalize strB (numB l.length 2) = N2 at *
  go_wp2_with fail
  refine Calls.mono (wtext_any wm.heap.size wm.heap.size [] Y _ HB2.out (by have := HYS.out; simp; omega) (by omega)) ?_
  rintro e w3 ⟨rfl, hb3, hk3⟩
  have HB3 : Hid (Bld wm.heap.size wm.heap.size (makeTo l 0) w3) := by show Bld _ _ _ _; rw [← HY.out]; exact hb3
  have HK3 : Hid (Keeps wm w3) := HK2.out.then (B' := wm.heap.size) hk3.1.kept (Nat.le_refl _)
  have hsz3 : wm.heap.size < w3.heap.size := by have := hk3.1.size; omega
  clear hb3 hk3 HB2 HK2 hY hz2 hsz2
  have HML := Lib.hid (makeTo_length HM.out)
  go_wp2_with fail
  go_loopw [18] (fun i wr => ∃ k : Nat, k ≤ l.length ∧ i = .int .i64 k ∧ Hid (Bld wm.heap.size wm.heap.size (makeTo l k) wr) ∧ Hid (Keeps wm wr)) (fun i _ => l.length - (intOf i).toNat)
  case atStart => exact ⟨0, by omega, rfl, by exact HB3, by exact HK3⟩
  case round =>
    obtain ⟨k, hk, rfl, hB, hK⟩ := hrel
    by_cases hlt : k < l.length
    · have hlt64 : (k : Int) < (l.length : Int) := by omega
      have hk0 : (0 : Int) ≤ (k : Int) := by omega
      obtain ⟨b1, o1, pc, qc, rfl, _, a0, a1, a2, a3, ht, hq⟩ := ent_cell (EntsAt.keeps H.out (HK1.out.trans hK.out)) hlt
      obtain ⟨hz0, hz1, hc0, hn0, hs0⟩ := mayE_nums (mayL_at HM.out hlt)
      have HEL := Lib.hid (entB_length (mayL_at HM.out hlt))
      have HMS := Lib.hid (makeTo_succ hlt)
      have HKD : Hid (kindB (eAt l k) = if (eAt l k).d then 1 else 0) := rfl
      obtain ⟨zn, hzn⟩ := Int.eq_ofNat_of_zero_le hz0
      rw [hzn] at a2 hz1
      have HEB : Hid (entB (eAt l k) = numB (kindB (eAt l k)) 1 ++ numB (eAt l k).n.size 1 ++ (eAt l k).n.data.toList ++ numB zn 4 ++ numB (eAt l k).c.length 2 ++ flatC (eAt l k).c) := by
        show _ = _; unfold entB; rw [hzn]; rfl
      have HFC := Lib.hid (flatC_length hs0)
      have HTX := Lib.hid ht
      have HQ := Lib.hid hq
      have hml := HML.out k (by omega)
      clear hz0 hzn hs0 ht hq
      generalize kindB (eAt l k) = kd at *
      generalize (eAt l k).n = n at *
      generalize (eAt l k).d = d at *
      generalize (eAt l k).c = c at *
      generalize (eAt l k).z = z at *
      generalize entB (eAt l k) = EB at *
      have HON := Lib.hid (entA_one n d (zn : Int) pc c.length qc)
      have HN29 := Lib.hid (fun wx => number_any n.size 1 wx (by omega) (by omega))
      have HN36 := Lib.hid (fun wx => number_any zn 4 wx (by omega) (by omega))
      have HN41 := Lib.hid (fun wx => number_any c.length 2 wx (by omega) (by omega))
      have HN25 := Lib.hid (fun wx => number_any kd 1 wx (by omega) (by have := HKD.out; split at this <;> omega))
      obtain ⟨pre, hpre⟩ : ∃ pre, makeTo l k = pre := ⟨_, rfl⟩
      rw [hpre] at hB HMS hml
      obtain ⟨T25, h25⟩ : ∃ T, strB (numB kd 1) = T := ⟨_, rfl⟩
      obtain ⟨T29, h29⟩ : ∃ T, strB (numB n.size 1) = T := ⟨_, rfl⟩
      obtain ⟨T36, h36⟩ : ∃ T, strB (numB zn 4) = T := ⟨_, rfl⟩
      obtain ⟨T41, h41⟩ : ∃ T, strB (numB c.length 2) = T := ⟨_, rfl⟩
      obtain ⟨T45, h45⟩ : ∃ T, strB (flatC c) = T := ⟨_, rfl⟩
      obtain ⟨T30, h30⟩ : ∃ T, T25 ++ T29 = T := ⟨_, rfl⟩
      obtain ⟨T33, h33⟩ : ∃ T, T30 ++ n = T := ⟨_, rfl⟩
      obtain ⟨T37, h37⟩ : ∃ T, T33 ++ T36 = T := ⟨_, rfl⟩
      obtain ⟨T42, h42⟩ : ∃ T, T37 ++ T41 = T := ⟨_, rfl⟩
      obtain ⟨T46, h46⟩ : ∃ T, T42 ++ T45 = T := ⟨_, rfl⟩
      rw [h25] at HN25
      rw [h29] at HN29
      rw [h36] at HN36
      rw [h41] at HN41
      have z25 : T25.size = 1 := by rw [← h25, strB_size, numB_length]
      have z29 : T29.size = 1 := by rw [← h29, strB_size, numB_length]
      have z36 : T36.size = 4 := by rw [← h36, strB_size, numB_length]
      have z41 : T41.size = 2 := by rw [← h41, strB_size, numB_length]
      have z45 : T45.size = 32 * c.length := by rw [← h45, strB_size, HFC.out]
      have z30 : T30.size = 2 := by rw [← h30, ByteArray.size_append, z25, z29]
      have z33 : T33.size = 2 + n.size := by rw [← h33, ByteArray.size_append, z30]
      have z37 : T37.size = 2 + n.size + 4 := by rw [← h37, ByteArray.size_append, z33, z36]
      have z42 : T42.size = 2 + n.size + 4 + 2 := by rw [← h42, ByteArray.size_append, z37, z41]
      have z46 : T46.size = 2 + n.size + 4 + 2 + 32 * c.length := by rw [← h46, ByteArray.size_append, z42, z45]
      have HT46 : Hid (T46.data.toList = EB) := by
        show _ = _
        rw [HEB.out, ← h46, ← h42, ← h37, ← h33, ← h30, ← h25, ← h29, ← h36, ← h41, ← h45]
        simp [strB]
      rw [← HT46.out] at HMS
      have X30 : Hid (T25 ++ T29 = T30 ∧ (9223372036854775807 < T25.size + T29.size) = False) := ⟨h30, eq_false (by omega)⟩
      have X33 : Hid (T30 ++ n = T33 ∧ (9223372036854775807 < T30.size + n.size) = False) := ⟨h33, eq_false (by omega)⟩
      have X37 : Hid (T33 ++ T36 = T37 ∧ (9223372036854775807 < T33.size + T36.size) = False) := ⟨h37, eq_false (by omega)⟩
      have X42 : Hid (T37 ++ T41 = T42 ∧ (9223372036854775807 < T37.size + T41.size) = False) := ⟨h42, eq_false (by omega)⟩
      have X46 : Hid (T42 ++ T45 = T46 ∧ (9223372036854775807 < T42.size + T45.size) = False) := ⟨h46, eq_false (by omega)⟩
      have HLB : Hid (pre.length + T46.size ≤ 140737488355328) := by show _ ≤ _; omega
      have HJ : Hid (∀ wx, SeqAt IsText wx.heap (.slice pc c.length qc) c → Calls Tryd.prog 52 #[.slice pc c.length qc, .string ⟨#[]⟩] wx fun e w' => e = .returned (.string T45) ∧ Keeps wx w') := fun wx hh => by
        rw [← h45]
        exact joinc_any pc qc c wx hh HQ.out (by omega) (by rw [HFC.out]; omega)
      clear h25 h29 h36 h41 h45 h30 h33 h37 h42 h46 z25 z29 z36 z41 z45 z30 z33 z37 z42 z46 hpre HEB HFC hz1 hml hc0 hn0
      generalize hm9 : c.length = m at *
      clear hm9
      go_upto_region 8 with (refine wpList_store_row rfl 33 (.tmp 6) (.tmp 21) rfl wr.heap.size #[.string n, .bool d, .int .i64 (zn : Int), .slice pc m qc] rfl rfl 33 _ (heap_alloc_last wr _) (by kernel_rfl) rfl HON.out ?_; rw [World.setRow_alloc_new])
      have E0 : Hid ((wr.alloc (.cells #[.string n, .bool d, .int .i64 (zn : Int), .slice pc m qc] 33)).cell? ⟨wr.heap.size, 0, none⟩ = some (.string n)) := World.cell?_alloc_new _ _ _ _
      have e1 : (wr.alloc (.cells #[.string n, .bool d, .int .i64 (zn : Int), .slice pc m qc] 33)).cell? ⟨wr.heap.size, 1, none⟩ = some (.bool d) := World.cell?_alloc_new _ _ _ _
      have E2 : Hid ((wr.alloc (.cells #[.string n, .bool d, .int .i64 (zn : Int), .slice pc m qc] 33)).cell? ⟨wr.heap.size, 2, none⟩ = some (.int .i64 (zn : Int))) := World.cell?_alloc_new _ _ _ _
      have E3 : Hid ((wr.alloc (.cells #[.string n, .bool d, .int .i64 (zn : Int), .slice pc m qc] 33)).cell? ⟨wr.heap.size, 3, none⟩ = some (.slice pc m qc)) := World.cell?_alloc_new _ _ _ _
      have HBL0 : Hid (Bld wm.heap.size wm.heap.size pre (wr.alloc (.cells #[.string n, .bool d, .int .i64 (zn : Int), .slice pc m qc] 33))) := Bld.keeps hB.out (kal _ _)
      have HKF : Hid (Keeps wm (wr.alloc (.cells #[.string n, .bool d, .int .i64 (zn : Int), .slice pc m qc] 33))) := hK.out.trans (kal _ _)
      replace HTX := Lib.hid (SeqAt.keeps HTX.out (kal wr (.cells #[.string n, .bool d, .int .i64 (zn : Int), .slice pc m qc] 33)))
      clear a0 a1 a2 a3 hB hK
      generalize wr.alloc (.cells #[.string n, .bool d, .int .i64 (zn : Int), .slice pc m qc] 33) = wf at *
      generalize wr.heap.size = F at *
      have HBL : Hid (∀ wx, Keeps wf wx → Bld wm.heap.size wm.heap.size pre wx) := fun wx hk => Bld.keeps HBL0.out hk
      have HBZ : Hid (∀ wx, Keeps wf wx → wm.heap.size ≤ wx.heap.size) := fun wx hk => Nat.le_trans HKF.out.size hk.size
      have HKB : Hid (∀ wx wy, Keeps wf wx → BKept wm.heap.size wm.heap.size wx wy → Keeps wm wy) := fun wx wy hk hb => (HKF.out.trans hk).then (B' := wm.heap.size) hb.1.kept (Nat.le_refl _)
      have HN45 : Hid (∀ wx, Keeps wf wx → Calls Tryd.prog 52 #[.slice pc m qc, .string ⟨#[]⟩] wx fun e w' => e = .returned (.string T45) ∧ Keeps wx w') := fun wx hk => HJ.out wx (SeqAt.keeps HTX.out hk)
      clear HJ HTX HBL0 HKF
      cases d with
      | false =>
        obtain rfl : kd = 0 := HKD.out
        replace HN25 : Hid (∀ wx, Calls Tryd.prog 51 #[.int .i64 0, .int .i64 1] wx fun e w' => e = .returned (.string T25) ∧ Keeps wx w') := HN25.out
        clear HKD
        go_upto_region 11 with (fail)
        clear e1
        refine wp_region_stage [24, 25, 26, 27, 28, 29, 30, 31, 32, 33, 34, 35, 36, 37, 38, 39, 40, 41, 42, 43, 44, 45, 46, 47] [[], [0], [], [2], [3], [4], [1, 5], [], [7], [6, 8], [], [10], [11], [9, 12], [], [14], [15], [16], [13, 17], [], [19], [20], [18, 21], [22]] [23] [0, 0, 0, 0, 0, 0, 0, 0, 0, 0, 0, 0, 0, 0, 0, 0, 0, 0, 0, 0, 0, 0, 0, 0] [] (fun i v _ => mk19F F wm.heap.size m qc zn pc n T25 T29 T30 T33 T36 T37 T41 T42 T45 T46 i v) (fun _ _ => True) (mk19I wf wm wm.heap.size pre T46) (by kernel_rfl) (by kernel_rfl) (by kernel_rfl) (by kernel_rfl) (by kernel_rfl) (by kernel_rfl) (by kernel_rfl) ?_ ?_ ?_ ?_ ?_ ?_ ?_
        · exact fun i v w w' _ h => h
        · exact fun _ => trivial
        · exact fun i s vs w h => by cases h
        · refine ⟨?_, ?_, ?_, ?_, ?_, ?_, ?_, ?_, ?_, ?_, ?_, ?_, ?_, ?_, ?_, ?_, ?_, ?_, ?_, ?_, ?_, ?_, ?_, ?_, trivial⟩
          · exact fun g b h => by (cases h)
          · exact fun g b h => by (cases h)
          · exact fun g b h => by (cases h)
          · exact fun g b h => by (cases h)
          · exact fun g b h => by (cases h)
          · exact fun g b h => by (cases h)
          · exact fun g b h => by (cases h)
          · exact fun g b h => by (cases h)
          · exact fun g b h => by (cases h)
          · exact fun g b h => by (cases h)
          · exact fun g b h => by (cases h)
          · exact fun g b h => by (cases h)
          · exact fun g b h => by (cases h)
          · exact fun g b h => by (cases h)
          · exact fun g b h => by (cases h)
          · exact fun g b h => by (cases h)
          · exact fun g b h => by (cases h)
          · exact fun g b h => by (cases h)
          · exact fun g b h => by (cases h)
          · exact fun g b h => by (cases h)
          · exact fun g b h => by (cases h)
          · exact fun g b h => by (cases h)
          · exact fun g b h => by (cases h)
          · exact fun g b h => by (cases h)
        · exact fun _ _ => keeps_refl wf
        · refine ⟨?_, ?_, ?_, ?_, ?_, ?_, ?_, ?_, ?_, ?_, ?_, ?_, ?_, ?_, ?_, ?_, ?_, ?_, ?_, ?_, ?_, ?_, ?_, ?_, trivial⟩
          · intro _ a w1 vs hI ho hn hu K hK
            have e7 : a.tmps[7]? = some (.int .i64 0) := ho 7 rfl
            clear hn ho hu
            have hI : Keeps wf w1 := hI
            go_simp
            exact hK _ _ trivial hI rfl
          · intro _ a w1 vs hI ho hn hu K hK
            obtain ⟨e24, g24⟩ : a.tmps[24]? = some (vs 0) ∧ vs 0 = .int .i64 0 := hn 0 (by decide)
            rw [g24] at e24
            clear g24
            clear hn ho hu
            have hI : Keeps wf w1 := hI
            go_simp
            refine Calls.mono (HN25.out _) ?_
            rintro e w' ⟨rfl, hk2⟩
            go_simp
            exact hK _ _ trivial (Keeps.trans hI hk2) rfl
          · intro _ a w1 vs hI ho hn hu K hK
            have e6 : a.tmps[6]? = some (.pointer (some ⟨F, 0, none⟩)) := ho 6 rfl
            clear hn ho hu
            have hI : Keeps wf w1 := hI
            go_simp
            exact hK _ _ trivial hI rfl
          · intro _ a w1 vs hI ho hn hu K hK
            obtain ⟨e26, g26⟩ : a.tmps[26]? = some (vs 2) ∧ vs 2 = .pointer (some ⟨F, 0, none⟩) := hn 2 (by decide)
            rw [g26] at e26
            clear g26
            clear hn ho hu
            have hI : Keeps wf w1 := hI
            have c := keeps_cell hI E0.out
            go_simp
            exact hK _ _ trivial hI rfl
          · intro _ a w1 vs hI ho hn hu K hK
            obtain ⟨e27, g27⟩ : a.tmps[27]? = some (vs 3) ∧ vs 3 = .string n := hn 3 (by decide)
            rw [g27] at e27
            clear g27
            clear hn ho hu
            have hI : Keeps wf w1 := hI
            go_simp
            exact hK _ _ trivial hI rfl
          · intro _ a w1 vs hI ho hn hu K hK
            obtain ⟨e28, g28⟩ : a.tmps[28]? = some (vs 4) ∧ vs 4 = .int .i64 (n.size : Int) := hn 4 (by decide)
            rw [g28] at e28
            clear g28
            clear hn ho hu
            have hI : Keeps wf w1 := hI
            go_simp
            refine Calls.mono (HN29.out _) ?_
            rintro e w' ⟨rfl, hk2⟩
            go_simp
            exact hK _ _ trivial (Keeps.trans hI hk2) rfl
          · intro _ a w1 vs hI ho hn hu K hK
            obtain ⟨e25, g25⟩ : a.tmps[25]? = some (vs 1) ∧ vs 1 = .string T25 := hn 1 (by decide)
            rw [g25] at e25
            clear g25
            obtain ⟨e29, g29⟩ : a.tmps[29]? = some (vs 5) ∧ vs 5 = .string T29 := hn 5 (by decide)
            rw [g29] at e29
            clear g29
            clear hn ho hu
            have hI : Keeps wf w1 := hI
            have q1 := X30.out.1
            have q2 := X30.out.2
            go_simp
            exact hK _ _ trivial hI rfl
          · intro _ a w1 vs hI ho hn hu K hK
            have e6 : a.tmps[6]? = some (.pointer (some ⟨F, 0, none⟩)) := ho 6 rfl
            clear hn ho hu
            have hI : Keeps wf w1 := hI
            go_simp
            exact hK _ _ trivial hI rfl
          · intro _ a w1 vs hI ho hn hu K hK
            obtain ⟨e31, g31⟩ : a.tmps[31]? = some (vs 7) ∧ vs 7 = .pointer (some ⟨F, 0, none⟩) := hn 7 (by decide)
            rw [g31] at e31
            clear g31
            clear hn ho hu
            have hI : Keeps wf w1 := hI
            have c := keeps_cell hI E0.out
            go_simp
            exact hK _ _ trivial hI rfl
          · intro _ a w1 vs hI ho hn hu K hK
            obtain ⟨e30, g30⟩ : a.tmps[30]? = some (vs 6) ∧ vs 6 = .string T30 := hn 6 (by decide)
            rw [g30] at e30
            clear g30
            obtain ⟨e32, g32⟩ : a.tmps[32]? = some (vs 8) ∧ vs 8 = .string n := hn 8 (by decide)
            rw [g32] at e32
            clear g32
            clear hn ho hu
            have hI : Keeps wf w1 := hI
            have q1 := X33.out.1
            have q2 := X33.out.2
            go_simp
            exact hK _ _ trivial hI rfl
          · intro _ a w1 vs hI ho hn hu K hK
            have e6 : a.tmps[6]? = some (.pointer (some ⟨F, 0, none⟩)) := ho 6 rfl
            clear hn ho hu
            have hI : Keeps wf w1 := hI
            go_simp
            exact hK _ _ trivial hI rfl
          · intro _ a w1 vs hI ho hn hu K hK
            obtain ⟨e34, g34⟩ : a.tmps[34]? = some (vs 10) ∧ vs 10 = .pointer (some ⟨F, 2, none⟩) := hn 10 (by decide)
            rw [g34] at e34
            clear g34
            clear hn ho hu
            have hI : Keeps wf w1 := hI
            have c := keeps_cell hI E2.out
            go_simp
            exact hK _ _ trivial hI rfl
          · intro _ a w1 vs hI ho hn hu K hK
            obtain ⟨e35, g35⟩ : a.tmps[35]? = some (vs 11) ∧ vs 11 = .int .i64 (zn : Int) := hn 11 (by decide)
            rw [g35] at e35
            clear g35
            clear hn ho hu
            have hI : Keeps wf w1 := hI
            go_simp
            refine Calls.mono (HN36.out _) ?_
            rintro e w' ⟨rfl, hk2⟩
            go_simp
            exact hK _ _ trivial (Keeps.trans hI hk2) rfl
          · intro _ a w1 vs hI ho hn hu K hK
            obtain ⟨e33, g33⟩ : a.tmps[33]? = some (vs 9) ∧ vs 9 = .string T33 := hn 9 (by decide)
            rw [g33] at e33
            clear g33
            obtain ⟨e36, g36⟩ : a.tmps[36]? = some (vs 12) ∧ vs 12 = .string T36 := hn 12 (by decide)
            rw [g36] at e36
            clear g36
            clear hn ho hu
            have hI : Keeps wf w1 := hI
            have q1 := X37.out.1
            have q2 := X37.out.2
            go_simp
            exact hK _ _ trivial hI rfl
          · intro _ a w1 vs hI ho hn hu K hK
            have e6 : a.tmps[6]? = some (.pointer (some ⟨F, 0, none⟩)) := ho 6 rfl
            clear hn ho hu
            have hI : Keeps wf w1 := hI
            go_simp
            exact hK _ _ trivial hI rfl
          · intro _ a w1 vs hI ho hn hu K hK
            obtain ⟨e38, g38⟩ : a.tmps[38]? = some (vs 14) ∧ vs 14 = .pointer (some ⟨F, 3, none⟩) := hn 14 (by decide)
            rw [g38] at e38
            clear g38
            clear hn ho hu
            have hI : Keeps wf w1 := hI
            have c := keeps_cell hI E3.out
            go_simp
            exact hK _ _ trivial hI rfl
          · intro _ a w1 vs hI ho hn hu K hK
            obtain ⟨e39, g39⟩ : a.tmps[39]? = some (vs 15) ∧ vs 15 = .slice pc m qc := hn 15 (by decide)
            rw [g39] at e39
            clear g39
            clear hn ho hu
            have hI : Keeps wf w1 := hI
            go_simp
            exact hK _ _ trivial hI rfl
          · intro _ a w1 vs hI ho hn hu K hK
            obtain ⟨e40, g40⟩ : a.tmps[40]? = some (vs 16) ∧ vs 16 = .int .i64 (m : Int) := hn 16 (by decide)
            rw [g40] at e40
            clear g40
            clear hn ho hu
            have hI : Keeps wf w1 := hI
            go_simp
            refine Calls.mono (HN41.out _) ?_
            rintro e w' ⟨rfl, hk2⟩
            go_simp
            exact hK _ _ trivial (Keeps.trans hI hk2) rfl
          · intro _ a w1 vs hI ho hn hu K hK
            obtain ⟨e37, g37⟩ : a.tmps[37]? = some (vs 13) ∧ vs 13 = .string T37 := hn 13 (by decide)
            rw [g37] at e37
            clear g37
            obtain ⟨e41, g41⟩ : a.tmps[41]? = some (vs 17) ∧ vs 17 = .string T41 := hn 17 (by decide)
            rw [g41] at e41
            clear g41
            clear hn ho hu
            have hI : Keeps wf w1 := hI
            have q1 := X42.out.1
            have q2 := X42.out.2
            go_simp
            exact hK _ _ trivial hI rfl
          · intro _ a w1 vs hI ho hn hu K hK
            have e6 : a.tmps[6]? = some (.pointer (some ⟨F, 0, none⟩)) := ho 6 rfl
            clear hn ho hu
            have hI : Keeps wf w1 := hI
            go_simp
            exact hK _ _ trivial hI rfl
          · intro _ a w1 vs hI ho hn hu K hK
            obtain ⟨e43, g43⟩ : a.tmps[43]? = some (vs 19) ∧ vs 19 = .pointer (some ⟨F, 3, none⟩) := hn 19 (by decide)
            rw [g43] at e43
            clear g43
            clear hn ho hu
            have hI : Keeps wf w1 := hI
            have c := keeps_cell hI E3.out
            go_simp
            exact hK _ _ trivial hI rfl
          · intro _ a w1 vs hI ho hn hu K hK
            obtain ⟨e44, g44⟩ : a.tmps[44]? = some (vs 20) ∧ vs 20 = .slice pc m qc := hn 20 (by decide)
            rw [g44] at e44
            clear g44
            clear hn ho hu
            have hI : Keeps wf w1 := hI
            go_simp
            refine Calls.mono (HN45.out _ hI) ?_
            rintro e w' ⟨rfl, hk2⟩
            go_simp
            exact hK _ _ trivial (Keeps.trans hI hk2) rfl
          · intro _ a w1 vs hI ho hn hu K hK
            obtain ⟨e42, g42⟩ : a.tmps[42]? = some (vs 18) ∧ vs 18 = .string T42 := hn 18 (by decide)
            rw [g42] at e42
            clear g42
            obtain ⟨e45, g45⟩ : a.tmps[45]? = some (vs 21) ∧ vs 21 = .string T45 := hn 21 (by decide)
            rw [g45] at e45
            clear g45
            clear hn ho hu
            have hI : Keeps wf w1 := hI
            have q1 := X46.out.1
            have q2 := X46.out.2
            go_simp
            exact hK _ _ trivial hI rfl
          · intro _ a w1 vs hI ho hn hu K hK
            have e4 : a.tmps[4]? = some (.pointer (some ⟨wm.heap.size, 0, none⟩)) := ho 4 rfl
            obtain ⟨e46, g46⟩ : a.tmps[46]? = some (vs 22) ∧ vs 22 = .string T46 := hn 22 (by decide)
            rw [g46] at e46
            clear g46
            clear hn ho hu
            have hI : Keeps wf w1 := hI
            go_simp
            refine Calls.mono (wtext_any wm.heap.size wm.heap.size _ T46 _ (HBL.out _ hI) HLB.out (HBZ.out _ hI)) ?_
            rintro e w' ⟨rfl, hb2, hb3⟩
            go_simp
            exact hK _ _ trivial ⟨hb2, HKB.out _ _ hI hb3⟩ rfl
        · intro vs wE hI hG
          have HE : Hid (Bld wm.heap.size wm.heap.size (pre ++ T46.data.toList) wE ∧ Keeps wm wE) := hI
          clear hG hI
          simp only [setAll, Nat.zero_add, Nat.reduceAdd, List.setIfInBounds_toArray, List.set_cons_zero, List.set_cons_succ]
          generalize vs 0 = y0 at *
          generalize vs 1 = y1 at *
          generalize vs 2 = y2 at *
          generalize vs 3 = y3 at *
          generalize vs 4 = y4 at *
          generalize vs 5 = y5 at *
          generalize vs 6 = y6 at *
          generalize vs 7 = y7 at *
          generalize vs 8 = y8 at *
          generalize vs 9 = y9 at *
          generalize vs 10 = y10 at *
          generalize vs 11 = y11 at *
          generalize vs 12 = y12 at *
          generalize vs 13 = y13 at *
          generalize vs 14 = y14 at *
          generalize vs 15 = y15 at *
          generalize vs 16 = y16 at *
          generalize vs 17 = y17 at *
          generalize vs 18 = y18 at *
          generalize vs 19 = y19 at *
          generalize vs 20 = y20 at *
          generalize vs 21 = y21 at *
          generalize vs 22 = y22 at *
          generalize vs 23 = y23 at *
          have HB2 : Hid (Bld wm.heap.size wm.heap.size (makeTo l (k + 1)) wE) := by show Bld _ _ _ _; rw [HMS.out]; exact HE.out.1
          have HK2 : Hid (Keeps wm wE) := HE.out.2
          clear HE
          go_wp2_with fail
          refine ⟨?_, by simp [intOf]; omega⟩
          first | exact ⟨k + 1, by omega, by go_num, HB2, HK2⟩ | ((repeat apply Exists.intro); exact ⟨⟨k + 1, by omega, by go_num, HB2, HK2⟩, rfl⟩)
      | true =>
        obtain rfl : kd = 1 := HKD.out
        replace HN25 : Hid (∀ wx, Calls Tryd.prog 51 #[.int .i64 1, .int .i64 1] wx fun e w' => e = .returned (.string T25) ∧ Keeps wx w') := HN25.out
        clear HKD
        go_upto_region 11 with (fail)
        clear e1
        refine wp_region_stage [24, 25, 26, 27, 28, 29, 30, 31, 32, 33, 34, 35, 36, 37, 38, 39, 40, 41, 42, 43, 44, 45, 46, 47] [[], [0], [], [2], [3], [4], [1, 5], [], [7], [6, 8], [], [10], [11], [9, 12], [], [14], [15], [16], [13, 17], [], [19], [20], [18, 21], [22]] [23] [0, 0, 0, 0, 0, 0, 0, 0, 0, 0, 0, 0, 0, 0, 0, 0, 0, 0, 0, 0, 0, 0, 0, 0] [] (fun i v _ => mk19T F wm.heap.size m qc zn pc n T25 T29 T30 T33 T36 T37 T41 T42 T45 T46 i v) (fun _ _ => True) (mk19I wf wm wm.heap.size pre T46) (by kernel_rfl) (by kernel_rfl) (by kernel_rfl) (by kernel_rfl) (by kernel_rfl) (by kernel_rfl) (by kernel_rfl) ?_ ?_ ?_ ?_ ?_ ?_ ?_
        · exact fun i v w w' _ h => h
        · exact fun _ => trivial
        · exact fun i s vs w h => by cases h
        · refine ⟨?_, ?_, ?_, ?_, ?_, ?_, ?_, ?_, ?_, ?_, ?_, ?_, ?_, ?_, ?_, ?_, ?_, ?_, ?_, ?_, ?_, ?_, ?_, ?_, trivial⟩
          · exact fun g b h => by (cases h)
          · exact fun g b h => by (cases h)
          · exact fun g b h => by (cases h)
          · exact fun g b h => by (cases h)
          · exact fun g b h => by (cases h)
          · exact fun g b h => by (cases h)
          · exact fun g b h => by (cases h)
          · exact fun g b h => by (cases h)
          · exact fun g b h => by (cases h)
          · exact fun g b h => by (cases h)
          · exact fun g b h => by (cases h)
          · exact fun g b h => by (cases h)
          · exact fun g b h => by (cases h)
          · exact fun g b h => by (cases h)
          · exact fun g b h => by (cases h)
          · exact fun g b h => by (cases h)
          · exact fun g b h => by (cases h)
          · exact fun g b h => by (cases h)
          · exact fun g b h => by (cases h)
          · exact fun g b h => by (cases h)
          · exact fun g b h => by (cases h)
          · exact fun g b h => by (cases h)
          · exact fun g b h => by (cases h)
          · exact fun g b h => by (cases h)
        · exact fun _ _ => keeps_refl wf
        · refine ⟨?_, ?_, ?_, ?_, ?_, ?_, ?_, ?_, ?_, ?_, ?_, ?_, ?_, ?_, ?_, ?_, ?_, ?_, ?_, ?_, ?_, ?_, ?_, ?_, trivial⟩
          · intro _ a w1 vs hI ho hn hu K hK
            have e7 : a.tmps[7]? = some (.int .i64 1) := ho 7 rfl
            clear hn ho hu
            have hI : Keeps wf w1 := hI
            go_simp
            exact hK _ _ trivial hI rfl
          · intro _ a w1 vs hI ho hn hu K hK
            obtain ⟨e24, g24⟩ : a.tmps[24]? = some (vs 0) ∧ vs 0 = .int .i64 1 := hn 0 (by decide)
            rw [g24] at e24
            clear g24
            clear hn ho hu
            have hI : Keeps wf w1 := hI
            go_simp
            refine Calls.mono (HN25.out _) ?_
            rintro e w' ⟨rfl, hk2⟩
            go_simp
            exact hK _ _ trivial (Keeps.trans hI hk2) rfl
          · intro _ a w1 vs hI ho hn hu K hK
            have e6 : a.tmps[6]? = some (.pointer (some ⟨F, 0, none⟩)) := ho 6 rfl
            clear hn ho hu
            have hI : Keeps wf w1 := hI
            go_simp
            exact hK _ _ trivial hI rfl
          · intro _ a w1 vs hI ho hn hu K hK
            obtain ⟨e26, g26⟩ : a.tmps[26]? = some (vs 2) ∧ vs 2 = .pointer (some ⟨F, 0, none⟩) := hn 2 (by decide)
            rw [g26] at e26
            clear g26
            clear hn ho hu
            have hI : Keeps wf w1 := hI
            have c := keeps_cell hI E0.out
            go_simp
            exact hK _ _ trivial hI rfl
          · intro _ a w1 vs hI ho hn hu K hK
            obtain ⟨e27, g27⟩ : a.tmps[27]? = some (vs 3) ∧ vs 3 = .string n := hn 3 (by decide)
            rw [g27] at e27
            clear g27
            clear hn ho hu
            have hI : Keeps wf w1 := hI
            go_simp
            exact hK _ _ trivial hI rfl
          · intro _ a w1 vs hI ho hn hu K hK
            obtain ⟨e28, g28⟩ : a.tmps[28]? = some (vs 4) ∧ vs 4 = .int .i64 (n.size : Int) := hn 4 (by decide)
            rw [g28] at e28
            clear g28
            clear hn ho hu
            have hI : Keeps wf w1 := hI
            go_simp
            refine Calls.mono (HN29.out _) ?_
            rintro e w' ⟨rfl, hk2⟩
            go_simp
            exact hK _ _ trivial (Keeps.trans hI hk2) rfl
          · intro _ a w1 vs hI ho hn hu K hK
            obtain ⟨e25, g25⟩ : a.tmps[25]? = some (vs 1) ∧ vs 1 = .string T25 := hn 1 (by decide)
            rw [g25] at e25
            clear g25
            obtain ⟨e29, g29⟩ : a.tmps[29]? = some (vs 5) ∧ vs 5 = .string T29 := hn 5 (by decide)
            rw [g29] at e29
            clear g29
            clear hn ho hu
            have hI : Keeps wf w1 := hI
            have q1 := X30.out.1
            have q2 := X30.out.2
            go_simp
            exact hK _ _ trivial hI rfl
          · intro _ a w1 vs hI ho hn hu K hK
            have e6 : a.tmps[6]? = some (.pointer (some ⟨F, 0, none⟩)) := ho 6 rfl
            clear hn ho hu
            have hI : Keeps wf w1 := hI
            go_simp
            exact hK _ _ trivial hI rfl
          · intro _ a w1 vs hI ho hn hu K hK
            obtain ⟨e31, g31⟩ : a.tmps[31]? = some (vs 7) ∧ vs 7 = .pointer (some ⟨F, 0, none⟩) := hn 7 (by decide)
            rw [g31] at e31
            clear g31
            clear hn ho hu
            have hI : Keeps wf w1 := hI
            have c := keeps_cell hI E0.out
            go_simp
            exact hK _ _ trivial hI rfl
          · intro _ a w1 vs hI ho hn hu K hK
            obtain ⟨e30, g30⟩ : a.tmps[30]? = some (vs 6) ∧ vs 6 = .string T30 := hn 6 (by decide)
            rw [g30] at e30
            clear g30
            obtain ⟨e32, g32⟩ : a.tmps[32]? = some (vs 8) ∧ vs 8 = .string n := hn 8 (by decide)
            rw [g32] at e32
            clear g32
            clear hn ho hu
            have hI : Keeps wf w1 := hI
            have q1 := X33.out.1
            have q2 := X33.out.2
            go_simp
            exact hK _ _ trivial hI rfl
          · intro _ a w1 vs hI ho hn hu K hK
            have e6 : a.tmps[6]? = some (.pointer (some ⟨F, 0, none⟩)) := ho 6 rfl
            clear hn ho hu
            have hI : Keeps wf w1 := hI
            go_simp
            exact hK _ _ trivial hI rfl
          · intro _ a w1 vs hI ho hn hu K hK
            obtain ⟨e34, g34⟩ : a.tmps[34]? = some (vs 10) ∧ vs 10 = .pointer (some ⟨F, 2, none⟩) := hn 10 (by decide)
            rw [g34] at e34
            clear g34
            clear hn ho hu
            have hI : Keeps wf w1 := hI
            have c := keeps_cell hI E2.out
            go_simp
            exact hK _ _ trivial hI rfl
          · intro _ a w1 vs hI ho hn hu K hK
            obtain ⟨e35, g35⟩ : a.tmps[35]? = some (vs 11) ∧ vs 11 = .int .i64 (zn : Int) := hn 11 (by decide)
            rw [g35] at e35
            clear g35
            clear hn ho hu
            have hI : Keeps wf w1 := hI
            go_simp
            refine Calls.mono (HN36.out _) ?_
            rintro e w' ⟨rfl, hk2⟩
            go_simp
            exact hK _ _ trivial (Keeps.trans hI hk2) rfl
          · intro _ a w1 vs hI ho hn hu K hK
            obtain ⟨e33, g33⟩ : a.tmps[33]? = some (vs 9) ∧ vs 9 = .string T33 := hn 9 (by decide)
            rw [g33] at e33
            clear g33
            obtain ⟨e36, g36⟩ : a.tmps[36]? = some (vs 12) ∧ vs 12 = .string T36 := hn 12 (by decide)
            rw [g36] at e36
            clear g36
            clear hn ho hu
            have hI : Keeps wf w1 := hI
            have q1 := X37.out.1
            have q2 := X37.out.2
            go_simp
            exact hK _ _ trivial hI rfl
          · intro _ a w1 vs hI ho hn hu K hK
            have e6 : a.tmps[6]? = some (.pointer (some ⟨F, 0, none⟩)) := ho 6 rfl
            clear hn ho hu
            have hI : Keeps wf w1 := hI
            go_simp
            exact hK _ _ trivial hI rfl
          · intro _ a w1 vs hI ho hn hu K hK
            obtain ⟨e38, g38⟩ : a.tmps[38]? = some (vs 14) ∧ vs 14 = .pointer (some ⟨F, 3, none⟩) := hn 14 (by decide)
            rw [g38] at e38
            clear g38
            clear hn ho hu
            have hI : Keeps wf w1 := hI
            have c := keeps_cell hI E3.out
            go_simp
            exact hK _ _ trivial hI rfl
          · intro _ a w1 vs hI ho hn hu K hK
            obtain ⟨e39, g39⟩ : a.tmps[39]? = some (vs 15) ∧ vs 15 = .slice pc m qc := hn 15 (by decide)
            rw [g39] at e39
            clear g39
            clear hn ho hu
            have hI : Keeps wf w1 := hI
            go_simp
            exact hK _ _ trivial hI rfl
          · intro _ a w1 vs hI ho hn hu K hK
            obtain ⟨e40, g40⟩ : a.tmps[40]? = some (vs 16) ∧ vs 16 = .int .i64 (m : Int) := hn 16 (by decide)
            rw [g40] at e40
            clear g40
            clear hn ho hu
            have hI : Keeps wf w1 := hI
            go_simp
            refine Calls.mono (HN41.out _) ?_
            rintro e w' ⟨rfl, hk2⟩
            go_simp
            exact hK _ _ trivial (Keeps.trans hI hk2) rfl
          · intro _ a w1 vs hI ho hn hu K hK
            obtain ⟨e37, g37⟩ : a.tmps[37]? = some (vs 13) ∧ vs 13 = .string T37 := hn 13 (by decide)
            rw [g37] at e37
            clear g37
            obtain ⟨e41, g41⟩ : a.tmps[41]? = some (vs 17) ∧ vs 17 = .string T41 := hn 17 (by decide)
            rw [g41] at e41
            clear g41
            clear hn ho hu
            have hI : Keeps wf w1 := hI
            have q1 := X42.out.1
            have q2 := X42.out.2
            go_simp
            exact hK _ _ trivial hI rfl
          · intro _ a w1 vs hI ho hn hu K hK
            have e6 : a.tmps[6]? = some (.pointer (some ⟨F, 0, none⟩)) := ho 6 rfl
            clear hn ho hu
            have hI : Keeps wf w1 := hI
            go_simp
            exact hK _ _ trivial hI rfl
          · intro _ a w1 vs hI ho hn hu K hK
            obtain ⟨e43, g43⟩ : a.tmps[43]? = some (vs 19) ∧ vs 19 = .pointer (some ⟨F, 3, none⟩) := hn 19 (by decide)
            rw [g43] at e43
            clear g43
            clear hn ho hu
            have hI : Keeps wf w1 := hI
            have c := keeps_cell hI E3.out
            go_simp
            exact hK _ _ trivial hI rfl
          · intro _ a w1 vs hI ho hn hu K hK
            obtain ⟨e44, g44⟩ : a.tmps[44]? = some (vs 20) ∧ vs 20 = .slice pc m qc := hn 20 (by decide)
            rw [g44] at e44
            clear g44
            clear hn ho hu
            have hI : Keeps wf w1 := hI
            go_simp
            refine Calls.mono (HN45.out _ hI) ?_
            rintro e w' ⟨rfl, hk2⟩
            go_simp
            exact hK _ _ trivial (Keeps.trans hI hk2) rfl
          · intro _ a w1 vs hI ho hn hu K hK
            obtain ⟨e42, g42⟩ : a.tmps[42]? = some (vs 18) ∧ vs 18 = .string T42 := hn 18 (by decide)
            rw [g42] at e42
            clear g42
            obtain ⟨e45, g45⟩ : a.tmps[45]? = some (vs 21) ∧ vs 21 = .string T45 := hn 21 (by decide)
            rw [g45] at e45
            clear g45
            clear hn ho hu
            have hI : Keeps wf w1 := hI
            have q1 := X46.out.1
            have q2 := X46.out.2
            go_simp
            exact hK _ _ trivial hI rfl
          · intro _ a w1 vs hI ho hn hu K hK
            have e4 : a.tmps[4]? = some (.pointer (some ⟨wm.heap.size, 0, none⟩)) := ho 4 rfl
            obtain ⟨e46, g46⟩ : a.tmps[46]? = some (vs 22) ∧ vs 22 = .string T46 := hn 22 (by decide)
            rw [g46] at e46
            clear g46
            clear hn ho hu
            have hI : Keeps wf w1 := hI
            go_simp
            refine Calls.mono (wtext_any wm.heap.size wm.heap.size _ T46 _ (HBL.out _ hI) HLB.out (HBZ.out _ hI)) ?_
            rintro e w' ⟨rfl, hb2, hb3⟩
            go_simp
            exact hK _ _ trivial ⟨hb2, HKB.out _ _ hI hb3⟩ rfl
        · intro vs wE hI hG
          have HE : Hid (Bld wm.heap.size wm.heap.size (pre ++ T46.data.toList) wE ∧ Keeps wm wE) := hI
          clear hG hI
          simp only [setAll, Nat.zero_add, Nat.reduceAdd, List.setIfInBounds_toArray, List.set_cons_zero, List.set_cons_succ]
          generalize vs 0 = y0 at *
          generalize vs 1 = y1 at *
          generalize vs 2 = y2 at *
          generalize vs 3 = y3 at *
          generalize vs 4 = y4 at *
          generalize vs 5 = y5 at *
          generalize vs 6 = y6 at *
          generalize vs 7 = y7 at *
          generalize vs 8 = y8 at *
          generalize vs 9 = y9 at *
          generalize vs 10 = y10 at *
          generalize vs 11 = y11 at *
          generalize vs 12 = y12 at *
          generalize vs 13 = y13 at *
          generalize vs 14 = y14 at *
          generalize vs 15 = y15 at *
          generalize vs 16 = y16 at *
          generalize vs 17 = y17 at *
          generalize vs 18 = y18 at *
          generalize vs 19 = y19 at *
          generalize vs 20 = y20 at *
          generalize vs 21 = y21 at *
          generalize vs 22 = y22 at *
          generalize vs 23 = y23 at *
          have HB2 : Hid (Bld wm.heap.size wm.heap.size (makeTo l (k + 1)) wE) := by show Bld _ _ _ _; rw [HMS.out]; exact HE.out.1
          have HK2 : Hid (Keeps wm wE) := HE.out.2
          clear HE
          go_wp2_with fail
          refine ⟨?_, by simp [intOf]; omega⟩
          first | exact ⟨k + 1, by omega, by go_num, HB2, HK2⟩ | ((repeat apply Exists.intro); exact ⟨⟨k + 1, by omega, by go_num, HB2, HK2⟩, rfl⟩)
    · obtain rfl : k = l.length := by omega
      have HLE : Hid (makeE l = if 16384 < (makeTo l l.length).length then (⟨#[]⟩, 40) else (strB (makeTo l l.length), 0)) := by show _ = _; unfold makeE makeB; rw [HM.out]; rfl
      generalize makeTo l l.length = D at *
      go_wp2_with fail
      refine Calls.mono (blen_any _ _ D _ hB.out) ?_
      rintro e w4 ⟨rfl, hw4⟩
      rw [← hw4]
      clear hw4
      by_cases hz : 16384 < D.length
      · have g1 : decide ((16384 : Int) < (D.length : Int)) = true := decide_eq_true (by omega)
        rw [if_pos hz] at HLE
        clear hz
        go_wp2_with fail
        go_ret2
        rw [HLE.out]
        exact ⟨rfl, HK1.out.trans hK.out⟩
      · have g1 : decide ((16384 : Int) < (D.length : Int)) = false := decide_eq_false (by omega)
        rw [if_neg hz] at HLE
        clear hz
        have hszr := hK.out.size
        go_wp2_with fail
        refine Calls.mono (btext_any _ _ D _ hB.out (by omega)) ?_
        rintro e w5 ⟨rfl, _, hk5⟩
        have HK5 : Hid (Keeps wm w5) := hK.out.then (B' := wm.heap.size) hk5.1.kept (Nat.le_refl _)
        clear hk5
        go_wp2_with fail
        go_ret2
        rw [HLE.out]
        exact ⟨rfl, HK1.out.trans HK5.out⟩
end Go.Proofs.YtdpfanifagfciaaDoor
