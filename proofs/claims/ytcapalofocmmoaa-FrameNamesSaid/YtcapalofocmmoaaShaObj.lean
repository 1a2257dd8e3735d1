/- The walks of the methods of sha.Hash. -/
import Derived.Test.YtcapalofocmmoaaShaTake
import Derived.Test.YtcapalofocmmoaaConv
import Derived.Test.YtcapalofocmmoaaCopyN
import Derived.Deep.WholeRow
import Derived.Test.YtcapalofocmmoaaShaMake
namespace Go.Proofs.Ytcapalofocmmoaa
open Go.RowKit
/-- Block b is a hash of these bytes. -/
def HashM (w : World) (b : Nat) (l : List UInt8) : Prop := HashR w b (SH.fed l) (SH.left l) l.length
theorem HashR.typ {w : World} {b : Nat} {n : List Nat} {r : List UInt8} {t : Nat} (h : HashR w b n r t) : typH w.heap b = some 68 := let ⟨_, _, _, _, h1, _⟩ := h; h1.typ
theorem HashR.lt {w : World} {b : Nat} {n : List Nat} {r : List UInt8} {t : Nat} (h : HashR w b n r t) : b < w.heap.size := typH_lt h.typ
theorem HashR.chg {T : Nat → Prop} {w w' : World} {b : Nat} {n : List Nat} {r : List UInt8} {t : Nat} (h : HashR w b n r t) (k : Chg T w w') (hb : ¬ T b) (h8 : ∀ x, T x → typH w.heap x ≠ some 5) (h32 : ∀ x, T x → typH w.heap x ≠ some 64) : HashR w' b n r t :=
  let ⟨vr, br, or, qr, h1, h2, h3, h4, h5⟩ := h
  ⟨vr, br, or, qr, h1.chg k hb, h2.chg k h8, h3, h4.chg k h32, h5⟩
theorem HashR.keeps {w w' : World} {b : Nat} {n : List Nat} {r : List UInt8} {t : Nat} (h : HashR w b n r t) (k : Keeps w w') : HashR w' b n r t := h.chg (T := fun _ => False) (Kept.any k) (fun x => x) (fun _ x => x.elim) fun _ x => x.elim
/-- Another hash has turned. -/
theorem HashR.other {w w' : World} {b c : Nat} {n : List Nat} {r : List UInt8} {t : Nat} (h : HashR w b n r t) (k : Chg (fun x => x = c) w w') (hc : typH w.heap c = some 68) (hne : b ≠ c) : HashR w' b n r t :=
  h.chg k hne (hash_not hc (by decide)) (hash_not hc (by decide))
theorem HashR.setTot {w : World} {b : Nat} {n : List Nat} {r : List UInt8} {t : Nat} (h : HashR w b n r t) (t' : Nat) : HashR (w.setCell ⟨b, 9, none⟩ (.int .i64 (t' : Int))) b n r t' := by
  obtain ⟨vr, br, or, qr, h1, h2, h3, h4, h5⟩ := h
  have k : Chg (fun x => x = b) w (w.setCell ⟨b, 9, none⟩ (.int .i64 (t' : Int))) := Chg.setCell (T := fun x => x = b) (a := w) (Chg.refl _ w) (p := ⟨b, 9, none⟩) (fun _ => rfl) _
  exact ⟨vr, br, or, qr, h1.setTot t', h2.chg k (hash_not h1.typ (by decide)), h3, h4.chg k (hash_not h1.typ (by decide)), h5⟩
theorem HashM.keeps {w w' : World} {b : Nat} {l : List UInt8} (h : HashM w b l) (k : Keeps w w') : HashM w' b l := HashR.keeps h k
theorem HashM.other {w w' : World} {b c : Nat} {l : List UInt8} (h : HashM w b l) (k : Chg (fun x => x = c) w w') (hc : typH w.heap c = some 68) (hne : b ≠ c) : HashM w' b l := HashR.other h k hc hne
theorem HashM.typ {w : World} {b : Nat} {l : List UInt8} (h : HashM w b l) : typH w.heap b = some 68 := HashR.typ h
theorem HashM.tot {w : World} {b : Nat} {l : List UInt8} (h : HashM w b l) : w.cell? ⟨b, 9, none⟩ = some (.int .i64 (l.length : Int)) ∧ w.frozen? ⟨b, 9, none⟩ = false := by
  obtain ⟨vr, br, or, qr, h1, _⟩ := h
  exact ⟨by rw [cell_of]; exact h1.tot, by rw [froz_of]; exact h1.free 9⟩
theorem take_fed {w' : World} {b : Nat} {l m : List UInt8} {t : Nat} (h : HashR w' b (SH.blk ((SH.left l ++ m).length / 64) (SH.fed l) (SH.left l ++ m)) ((SH.left l ++ m).drop (64 * ((SH.left l ++ m).length / 64))) t) : HashR w' b (SH.fed (l ++ m)) (SH.left (l ++ m)) t := by
  rw [SH.fed_append, SH.left_append']; exact h
theorem hadd_nil (s : ByteArray) (w : World) : Calls Try.prog 17 #[.pointer none, .string s] w fun e w' => e = .returned (.int .i64 2) ∧ w = w' := by
  go_enter Try.func17, Try.ntmps17
  go_wp2
  go_ret
  exact ⟨rfl, rfl⟩
set_option maxRecDepth 100000 in
set_option maxHeartbeats 4000000 in
theorem hadd_any (b : Nat) (l : List UInt8) (s : ByteArray) (w : World) (h : HashM w b l) (hlen : l.length + s.size ≤ 140737488355328) :
    Calls Try.prog 17 #[.pointer (some ⟨b, 0, none⟩), .string s] w fun e w' => e = .returned (.int .i64 0) ∧ HashM w' b (l ++ s.data.toList) ∧ Chg (fun x => x = b) w w' := by
  obtain ⟨c9, f9⟩ := h.tot
  have H := Lib.hid h
  have HT1 := Lib.hid (HashR.setTot h (l.length + s.size))
  clear h
  go_enter Try.func17, Try.ntmps17
  have hE : Hid ((l.length : Int) + (s.size : Int) = ((l.length + s.size : Nat) : Int)) := by show _ = _; omega
  go_wp2_with (refine wp_bytes rfl 9 59 (.tmp 17) rfl s rfl Try.underlying9 Try.underlying59 Try.underlying5 (by omega) ?_; intro c w2 hc hrow hk2)
  rw [hE.out] at hk2
  have HR2 := Lib.hid (SeqIn.at_ hrow)
  have HH2 := Lib.hid (HT1.out.keeps hk2)
  have HC1 : Hid (Chg (fun x => x = b) w w2) := (Chg.setCell (T := fun x => x = b) (a := w) (Chg.refl _ w) (p := ⟨b, 9, none⟩) (fun _ => rfl) _).trans (Kept.any hk2)
  have hsz : (SH.left l).length + s.data.toList.length ≤ 140737488355328 := by rw [SH.left_length, data_size]; omega
  rw [World.size_setCell] at HR2
  clear hk2 hrow
  refine Calls.mono (take_any b (SH.fed l) (SH.left l) s.data.toList (l.length + s.size) _ w2 HH2.out HR2.out hsz) ?_
  rintro e w3 ⟨rfl, h3, k3⟩
  have HH3 := Lib.hid h3
  have HC3 := Lib.hid (HC1.out.trans k3)
  clear h3 k3
  go_wp2
  go_ret
  have e1 : l.length + s.size = (l ++ s.data.toList).length := by rw [List.length_append, data_size]
  refine ⟨rfl, ?_, HC3.out⟩
  have h4 := take_fed (w' := w3) HH3.out
  rw [e1] at h4
  exact h4
theorem hcopy_nil (w : World) : Calls Try.prog 16 #[.pointer none] w fun e w' => e = .returned (.pointer none) ∧ w = w' := by
  go_enter Try.func16, Try.ntmps16
  go_wp2
  go_ret
  exact ⟨rfl, rfl⟩
theorem HashC.all {w : World} {b : Nat} {n : List Nat} {vr : Value} {tot : Nat} {vo : Value} (c : HashC w.heap b n vr tot vo) (hn : n.length = 8) : w.rangeAt b 0 (hashL n vr tot vo) := fun j v hj => by
  rw [Nat.zero_add, cell_of]
  unfold hashL at hj
  have hl : (n.map fun (x : Nat) => Value.int .u32 (x : Int)).length = 8 := by rw [List.length_map, hn]
  rcases Nat.lt_or_ge j 8 with h | h
  · rw [List.getElem?_append_left (by omega), List.getElem?_map, List.getElem?_eq_getElem (by omega)] at hj
    rw [c.now j h, ← hj, List.getD_eq_getElem?_getD, List.getElem?_eq_getElem (by omega)]; rfl
  · rw [List.getElem?_append_right (by omega), hl] at hj
    match j, h with
    | 8, _ => rw [c.rest]; exact hj
    | 9, _ => rw [c.tot]; exact hj
    | 10, _ => rw [c.roots]; exact hj
    | j + 11, _ => simp at hj
theorem hashL_length {n : List Nat} (hn : n.length = 8) (vr : Value) (tot : Nat) (vo : Value) : (hashL n vr tot vo).length = 11 := by unfold hashL; simp [hn]
theorem hashL_one (n : List Nat) (p : Option Addr) (c d : Nat) (tot : Nat) (p' : Option Addr) (c' d' : Nat) : (⟨hashL n (.slice p c d) tot (.slice p' c' d')⟩ : Array Value).all (·.oneCell') = true :=
  Array.all_eq_true_iff_forall_mem.2 fun v hv => by
    have hv' : v ∈ hashL n (.slice p c d) tot (.slice p' c' d') := by simpa using hv
    unfold hashL at hv'
    rw [List.mem_append] at hv'
    rcases hv' with h | h
    · obtain ⟨x, _, rfl⟩ := List.mem_map.1 h; rfl
    · simp only [List.mem_cons, List.not_mem_nil, or_false] at h
      rcases h with rfl | rfl | rfl <;> rfl
set_option maxRecDepth 100000 in
set_option maxHeartbeats 4000000 in
theorem hcopy_any (b : Nat) (l : List UInt8) (w : World) (h : HashM w b l) :
    Calls Try.prog 16 #[.pointer (some ⟨b, 0, none⟩)] w fun e w' => e = .returned (.pointer (some ⟨w.heap.size, 0, none⟩)) ∧ HashM w' w.heap.size l ∧ Keeps w w' := by
  have hb := HashR.lt h
  obtain ⟨vr, br, or, qr, h1, h2, h3, h4, h5⟩ := h
  obtain ⟨ar, cr, rfl⟩ := seq_shape h2.1
  have hle : (SH.left l).length < 64 := by rw [SH.left_length]; omega
  have HC := Lib.hid h1
  have HR := Lib.hid h2
  have HK := Lib.hid h4
  have HOK := Lib.hid h5
  have HS11 : Hid ((Try.prog.info? 68).map (·.size) = some (hashL (SH.fed l) (.slice ar (SH.left l).length cr) l.length (.slice (some ⟨br, or, none⟩) 64 qr)).length) := by show _ = _; rw [hashL_length h5.1]; kernel_rfl
  clear h1 h2 h3 h4 h5
  generalize hr : SH.left l = r at *
  have HRL := Lib.hid hr
  clear hr
  obtain ⟨w1, hw1⟩ : ∃ w1, w1 = w.alloc (.cells ⟨hashL (SH.fed l) (.slice ar r.length cr) l.length (.slice (some ⟨br, or, none⟩) 64 qr)⟩ 68) := ⟨_, rfl⟩
  have HC1 : Hid (HashC w1.heap w.heap.size (SH.fed l) (.slice ar r.length cr) l.length (.slice (some ⟨br, or, none⟩) 64 qr)) := by
    rw [hw1]; exact HashC.new w _ HOK.out.1 _ _ _
  have HW1 := Lib.hid hw1
  have hk1 : Keeps w w1 := by rw [hw1]; exact kal _ _
  have hs1 : w1.heap.size = w.heap.size + 1 := by rw [hw1]; simp
  clear hw1
  go_enter Try.func16, Try.ntmps16
  have c8 : w1.cell? ⟨b, 8, none⟩ = some (.slice ar r.length cr) := by rw [cell_of]; exact (HC.out.keeps hk1).rest
  have d8 : w1.cell? ⟨w.heap.size, 8, none⟩ = some (.slice ar r.length cr) := by rw [cell_of]; exact HC1.out.rest
  have e8 : w1.frozen? ⟨w.heap.size, 8, none⟩ = false := by rw [froz_of]; exact HC1.out.free 8
  have hmk : ∀ wx : World, (Instr.makeSlice 59 (.int .i64 (r.length : Int)) (.int .i64 (r.length : Int))).run Try.prog wx = .ok (.slice (some ⟨wx.heap.size, 0, none⟩) r.length r.length) (wx.alloc (.cells (reps r.length (.int .u8 0)) 5)) := fun wx =>
    run_mk 59 5 1 (.int .u8 0) Try.underlying59 (by kernel_rfl) rfl r.length (by omega) (by omega) wx
  have dA : ∀ o : Obj, (w1.alloc o).cell? ⟨w.heap.size, 8, none⟩ = some (.slice ar r.length cr) := fun o => keeps_cell (kal w1 o) d8
  have eA : ∀ o : Obj, (w1.alloc o).frozen? ⟨w.heap.size, 8, none⟩ = false := fun o => keeps_froz (kal w1 o) d8 e8
  have hlt1 : w.heap.size < w1.heap.size := by omega
  have HK1 := Lib.hid hk1
  have S1 := Lib.hid hs1
  clear hk1 hs1
  go_wp2_with (first
    | (refine wpList_load_mid rfl 68 (.tmp 7) rfl b 0 rfl _ _ (HC.out.all HOK.out.1) Try.underlying68 rfl HS11.out ?_)
    | (refine wpList_store_row rfl 68 (.tmp 3) (.tmp 8) rfl w.heap.size _ rfl rfl 68 _ (heap_alloc_last w _) HS11.out (by show _ = (hashL _ _ _ _).length; rw [hashL_length HOK.out.1]; rfl) (hashL_one _ _ _ _ _ _ _ _) ?_; rw [World.setRow_alloc_new]; rw [← HW1.out]))
  obtain ⟨w2, hw2⟩ : ∃ w2, w2 = (w1.setCell ⟨w.heap.size, 8, none⟩ (.slice (some ⟨w1.heap.size, 0, none⟩) r.length r.length)).alloc (.cells (reps r.length (.int .u8 0)) 5) := ⟨_, rfl⟩
  rw [← hw2]
  have HC2 : Hid (HashC w2.heap w.heap.size (SH.fed l) (.slice (some ⟨w1.heap.size, 0, none⟩) r.length r.length) l.length (.slice (some ⟨br, or, none⟩) 64 qr)) := by
    show HashC _ _ _ _ _ _
    rw [hw2]; exact (HC1.out.setRest _).al _
  have HG2 : Hid (w2.heap[w1.heap.size]? = some (.cells (reps r.length (.int .u8 0)) 5 (0, 0))) := by
    show _ = _
    have h9 := heap_alloc_last (w1.setCell ⟨w.heap.size, 8, none⟩ (.slice (some ⟨w1.heap.size, 0, none⟩) r.length r.length)) (.cells (reps r.length (.int .u8 0)) 5)
    rw [World.size_setCell] at h9
    rw [hw2]; exact h9
  have HX2 : Hid (Chg (fun x => x = w.heap.size) w1 w2) := by rw [hw2]; exact (Chg.setCell (T := fun x => x = w.heap.size) (Chg.refl _ w1) (p := ⟨w.heap.size, 8, none⟩) (fun _ => rfl) _).alloc _
  have HK2 : Hid (Keeps w w2) := ((Kept.any (T := fun x => x = w.heap.size) HK1.out).trans HX2.out).keeps fun x hx e => by omega
  have HR2 := Lib.hid (HR.out.keeps HK2.out)
  have c82 : w2.cell? ⟨b, 8, none⟩ = some (.slice ar r.length cr) := by rw [cell_of]; exact (HC.out.keeps HK2.out).rest
  have d82 : w2.cell? ⟨w.heap.size, 8, none⟩ = some (.slice (some ⟨w1.heap.size, 0, none⟩) r.length r.length) := by rw [cell_of]; exact HC2.out.rest
  clear hw2 dA eA d8 e8 c8 hmk
  go_wp2_with fail
  refine wp_region_tail (List.dropLast _) (List.getLast _ (List.cons_ne_nil _ _)) (List.dropLast_concat_getLast _).symm (by kernel_rfl) (by kernel_rfl) (by kernel_rfl) (by kernel_rfl) rfl (by kernel_rfl) ?_; simp only [List.dropLast_cons_cons, List.dropLast_singleton, List.getLast_cons_cons, List.getLast_singleton]; (repeat (go_big_quiet_step (fail))); refine wpQuiet_nil ?_; intro _ hw1; obtain ⟨nq, hw2⟩ := hw1; subst hw2
  go_wp2_with (refine wp_copy_new elByte (by kernel_rfl) (R := IsByte) (fun u x h => by rw [h]; rfl) rfl (.tmp 17) (.tmp 21) rfl w1.heap.size r.length r.length rfl (.slice ar r.length cr) rfl r HR2.out.1 rfl _ HG2.out (reps_size _ _) ?_; intro w3 hc3 hs3)
  have HC3 : Hid (HashC w3.heap w.heap.size (SH.fed l) (.slice (some ⟨w1.heap.size, 0, none⟩) r.length r.length) l.length (.slice (some ⟨br, or, none⟩) 64 qr)) := HC2.out.chg hc3 (by omega)
  have HKF : Hid (Keeps w w3) := ((Kept.any (T := fun x => w.heap.size ≤ x) HK2.out).trans (hc3.mono fun x _ e => by show w.heap.size ≤ x; omega)).keeps fun x h1 h2 => by omega
  have HHF : Hid (HashM w3 w.heap.size l) := by
    show HashR _ _ _ _ _
    rw [HRL.out]
    refine ⟨_, br, or, qr, HC3.out, SeqIn.ty hs3, capOk_mk (Nat.le_refl _), ?_, HOK.out⟩
    exact (HK.out.keeps HK2.out).chg hc3 (hash_not (typH_of HG2.out) (by decide))
  clear hc3 hs3
  go_wp2
  go_ret
  exact ⟨rfl, HHF.out, HKF.out⟩
end Go.Proofs.Ytcapalofocmmoaa
