/- The walks of packer.Bytes, and of the laws' long and times. -/
import Derived.Test.YteandjophamipaaGath28
import Derived.Test.YteandjophamipaaMany
namespace Go.Proofs.Yteandjophamipaa
open Go.RowKit
/-- A pack, whatever its rows. -/
def PackT (us : List Value) (g : List ByteArray) : Prop := ∃ (c p : Value), us = [.string (strB (blobP g)), .string (dgP g), c, p] ∧ ∀ y ∈ us, y.oneCell' = true
theorem IsPack.t {S : Nat → Prop} {h : Array Obj} {us : List Value} {g : List ByteArray} (k : IsPack S h us g) : PackT us g := by
  have h1 := pack_one k
  obtain ⟨c, p, e, _, _⟩ := k
  exact ⟨c, p, e, h1⟩
theorem bytesG_take {gs : List (List ByteArray)} {k : Nat} (h : k < gs.length) : bytesG (gs.take (k + 1)) = bytesG (gs.take k) + (blobP (grp gs k)).length := by
  rw [grp_get h, ← bytesG_snoc, List.take_append_getElem h]
theorem bytesG_mono {gs : List (List ByteArray)} (k : Nat) : bytesG (gs.take k) ≤ bytesG gs := by
  unfold bytesG
  rw [List.map_take]
  conv => rhs; rw [← List.take_append_drop k (gs.map fun g => (blobP g).length)]
  rw [List.sum_append]; omega
set_option maxRecDepth 100000 in
set_option maxHeartbeats 4000000 in
theorem pbytes_any (v : Value) (gs : List (List ByteArray)) (w : World) (h : RecAt 4 PackT w.heap v gs) (hb : bytesG gs ≤ 1000000000) : Calls Try.prog 30 #[v] w fun e w' => e = .returned (.int .i64 (bytesG gs : Int)) ∧ Keeps w w' := by
  obtain ⟨p, q, rfl⟩ := rec_shape h
  have hl63 : gs.length ≤ 9223372036854775807 := let ⟨_, _, _, x, _⟩ := h; x
  have H := Lib.hid h
  have HBB := Lib.hid hb
  clear h hb
  go_enter Try.func30, Try.ntmps30
  go_wp2_with fail
  go_loopw [3, 8] (fun t i wr => ∃ k : Nat, k ≤ gs.length ∧ i = .int .i64 k ∧ t = .int .i64 (bytesG (gs.take k) : Int) ∧ Hid (Keeps w wr)) (fun _ i _ => gs.length - (intOf i).toNat)
  case atStart => exact ⟨0, by omega, rfl, rfl, keeps_refl w⟩
  case round =>
    obtain ⟨k, hk, rfl, rfl, hK⟩ := hrel
    by_cases hlt : k < gs.length
    · have hlt64 : (k : Int) < (gs.length : Int) := by omega
      have hk0 : (0 : Int) ≤ (k : Int) := by omega
      obtain ⟨b, off, cp, us, e5, hus, hc, c, pp, rfl, hone⟩ := rec_cell (RecAt.keeps H.out hK.out) hlt
      injection e5 with e6 e7 e8
      subst e6 e8
      rw [← grp_get hlt] at hc
      have d0 := hc 0 (by simp)
      have d1 := hc 1 (by simp)
      have d2 := hc 2 (by simp)
      have d3 := hc 3 (by simp)
      simp only [List.getElem_cons_zero, List.getElem_cons_succ, Nat.add_zero] at d0 d1 d2 d3
      have hbs : (strB (blobP (grp gs k))).size = (blobP (grp gs k)).length := strB_size _
      have hst := bytesG_take hlt
      have hmo := bytesG_mono (gs := gs) (k + 1)
      have hbd := HBB.out
      have HON : Hid ((#[.string (strB (blobP (grp gs k))), .string (dgP (grp gs k)), c, pp] : Array Value).all (·.oneCell') = true) := by
        refine Array.all_eq_true_iff_forall_mem.2 fun v hv => hone v ?_
        rw [grp_get hlt] at hv
        simpa using hv
      clear hc hus e7 hone
      generalize grp gs k = g at *
      generalize strB (blobP g) = B at *
      generalize dgP g = D at *
      generalize (blobP g).length = x at *
      have hxe : bytesG (gs.take (k + 1)) = bytesG (gs.take k) + B.size := by omega
      have hle : bytesG (gs.take k) + B.size ≤ 1000000000 := by omega
      have HX := Lib.hid hxe
      clear hst hmo hbd hbs hxe
      generalize bytesG (gs.take k) = t at *
      go_wp2_with (refine wpList_store_row rfl 50 (.tmp 5) (.tmp 11) rfl wr.heap.size #[.string B, .string D, c, pp] rfl rfl 50 _ (heap_alloc_last wr _) (by kernel_rfl) rfl HON.out ?_; rw [World.setRow_alloc_new])
      exact ⟨⟨k + 1, by omega, by go_num, by rw [HX.out]; go_num, hK.out.trans (kal _ _)⟩, by simp [intOf]; omega⟩
    · obtain rfl : k = gs.length := by omega
      go_wp2_with fail
      go_ret
      refine ⟨?_, hK.out⟩
      show Ending.returned (.int .i64 (bytesG (gs.take gs.length) : Int)) = _
      rw [List.take_length]
/-- Are chunks more than a statement goes over? -/
def longB (l : List ByteArray) : Bool := !(decide (∀ c ∈ l, c.size ≤ 20000) && decide (20 * l.length + total l ≤ 80000))
theorem longB_no {l : List ByteArray} (h : longB l = false) : (∀ c ∈ l, c.size ≤ 20000) ∧ 20 * l.length + total l ≤ 80000 := by
  unfold longB at h
  rw [Bool.not_eq_false', Bool.and_eq_true, decide_eq_true_eq, decide_eq_true_eq] at h
  exact h
theorem longB_yes1 {l : List ByteArray} {k : Nat} (hk : k < l.length) (h : 20000 < (atP l k).size) : longB l = true := by
  unfold longB
  have : ¬ (∀ c ∈ l, c.size ≤ 20000) := fun x => by have := x (atP l k) (by rw [atP_get hk]; exact List.getElem_mem hk); omega
  rw [decide_eq_false this]; rfl
theorem longB_yes2 {l : List ByteArray} {k : Nat} (hk : k ≤ l.length) (h : 80000 < 20 * k + total (l.take k)) : longB l = true := by
  unfold longB
  have := total_le l k
  rw [decide_eq_false (p := 20 * l.length + total l ≤ 80000) (by omega)]; simp
theorem longB_false {l : List ByteArray} (h1 : ∀ k, k < l.length → (atP l k).size ≤ 20000) (h2 : 20 * l.length + total l ≤ 80000) : longB l = false := by
  unfold longB
  rw [decide_eq_true h2, decide_eq_true (p := ∀ c ∈ l, c.size ≤ 20000) (fun c hc => by
    obtain ⟨i, hi, rfl⟩ := List.getElem_of_mem hc
    rw [← atP_get hi]; exact h1 i hi)]; rfl
set_option maxRecDepth 100000 in
set_option maxHeartbeats 4000000 in
theorem plong16_any (v : Value) (l : List ByteArray) (w : World) (h : TextsAt w.heap v l) : Calls Try.prog 26 #[v] w fun e w' => e = .returned (.bool (longB l)) ∧ w = w' := by
  obtain ⟨p, q, rfl⟩ := seq_shape h
  have hl63 : l.length ≤ 9223372036854775807 := let ⟨_, _, _, x, _⟩ := h; x
  have H := Lib.hid h
  clear h
  go_enter Try.func26, Try.ntmps26
  go_wp2_with fail
  go_loopw [3, 4] (fun t i wr => ∃ k : Nat, k ≤ l.length ∧ i = .int .i64 k ∧ t = .int .i64 ((20 * k + total (l.take k) : Nat) : Int) ∧ Hid (∀ j, j < k → (atP l j).size ≤ 20000) ∧ 20 * k + total (l.take k) ≤ 80000 ∧ wr = w) (fun _ i _ => l.length - (intOf i).toNat)
  case atStart => exact ⟨0, by omega, rfl, rfl, fun j h => by omega, by simp [total], rfl⟩
  case round =>
    obtain ⟨k, hk, rfl, rfl, hA, hT, rfl⟩ := hrel
    by_cases hlt : k < l.length
    · have hlt64 : (k : Int) < (l.length : Int) := by omega
      have hk0 : (0 : Int) ≤ (k : Int) := by omega
      obtain ⟨b, off, cp, u, e5, d1, r1⟩ := seq_cell H.out hlt
      injection e5 with e6 e7 e8
      subst e6 e8
      unfold IsText at r1
      subst r1
      rw [← atP_get hlt] at d1
      have htt := total_take hlt
      have HY1 := Lib.hid (fun h => longB_yes1 hlt h)
      have HY2 := Lib.hid (fun h => longB_yes2 (show k + 1 ≤ l.length from hlt) h)
      have HAA : Hid ((atP l k).size ≤ 20000 → ∀ j, j < k + 1 → (atP l j).size ≤ 20000) := fun h j hj => by
        by_cases e : j = k
        · subst e; exact h
        · exact hA.out j (by omega)
      clear e7
      generalize atP l k = s at *
      by_cases h1 : 20000 < s.size
      · have g1 : decide (20000 < (s.size : Int)) = true := decide_eq_true (by omega)
        have g2 : (20000 : Int) < (s.size : Int) := by omega
        have HL := Lib.hid (HY1.out h1)
        clear htt
        go_wp2_with fail
        go_ret
        exact ⟨by rw [HL.out]; rfl, rfl⟩
      · have g1 : decide (20000 < (s.size : Int)) = false := decide_eq_false (by omega)
        have g2 : ¬ (20000 : Int) < (s.size : Int) := by omega
        have HX : Hid (((20 * (k + 1) + total (l.take (k + 1)) : Nat) : Int) = ((20 * k + total (l.take k) : Nat) : Int) + 20 + (s.size : Int)) := by show _ = _; rw [htt]; omega
        have hs1 : s.size ≤ 20000 := by omega
        generalize hT2 : total (l.take (k + 1)) = T2 at *
        generalize 20 * k + total (l.take k) = t at *
        by_cases h2 : 80000 < 20 * (k + 1) + T2
        · have HL := Lib.hid (HY2.out h2)
          have g3 : 80000 < (t : Int) + 20 + (s.size : Int) := by have := HX.out; omega
          have g4 : decide (80000 < (t : Int) + 20 + (s.size : Int)) = true := decide_eq_true g3
          clear htt hT2
          go_wp2_with fail
          go_ret
          exact ⟨by rw [HL.out]; rfl, rfl⟩
        · have g3 : ¬ 80000 < (t : Int) + 20 + (s.size : Int) := by have := HX.out; omega
          have g4 : decide (80000 < (t : Int) + 20 + (s.size : Int)) = false := decide_eq_false g3
          have HTT := Lib.hid hT2
          clear htt hT2
          go_wp2_with fail
          exact ⟨⟨k + 1, by omega, by go_num, by rw [HTT.out, HX.out], HAA.out hs1, by rw [HTT.out]; omega, (by first | rfl | trivial)⟩, by simp [intOf]; omega⟩
    · obtain rfl : k = l.length := by omega
      rw [List.take_length] at hT
      have HL := Lib.hid (longB_false hA.out hT)
      clear hA
      go_wp2_with fail
      go_ret
      exact ⟨by rw [HL.out]; rfl, rfl⟩
set_option maxRecDepth 100000 in
set_option maxHeartbeats 4000000 in
theorem ptimes_any (n : Nat) (c : UInt8) (w : World) (hn : n ≤ 60000) : Calls Try.prog 33 #[.int .i64 (n : Int), .int .u8 (c.toNat : Int)] w fun e w' => e = .returned (.string (manyB n c)) ∧ Keeps w w' := by
  have hmk := mk_brow n hn
  have HN := Lib.hid hn
  have hn2 : n ≤ 60000 := hn
  clear hn
  go_enter Try.func33, Try.ntmps33
  go_wp2_with fail
  clear hmk
  go_loopw [6] (fun i wr => ∃ k : Nat, k ≤ n ∧ i = .int .i64 k ∧ Hid (BRow wr.heap w.heap.size n (fun j => if j < k then c else 0)) ∧ Hid (Keeps w wr)) (fun i _ => n - (intOf i).toNat)
  case atStart => exact ⟨0, by omega, rfl, (BRow.new w n).congr fun j _ => by (try dsimp only); rw [if_neg (by omega)], kal _ _⟩
  case round =>
    obtain ⟨k, hk, rfl, hR, hK⟩ := hrel
    by_cases hlt : k < n
    · have i1 : (k : Int) < (n : Int) := by omega
      have i0 : (0 : Int) ≤ (k : Int) := by omega
      obtain ⟨f1, c1⟩ := hR.out.2 k hlt
      rw [← froz_of] at f1
      rw [← cell_of] at c1
      dsimp only at c1
      have HR2 : Hid (BRow (wr.setCell ⟨w.heap.size, k, none⟩ (.int .u8 (c.toNat : Int))).heap w.heap.size n (fun j => if j < k + 1 then c else 0)) := (hR.out.set hlt c).congr fun j _ => by
        (try dsimp only)
        by_cases e : j = k
        · rw [if_pos e, if_pos (by omega)]
        · rw [if_neg e]
          by_cases e2 : j < k
          · rw [if_pos e2, if_pos (by omega)]
          · rw [if_neg e2, if_neg (by omega)]
      have HK2 : Hid (Keeps w (wr.setCell ⟨w.heap.size, k, none⟩ (.int .u8 (c.toNat : Int)))) := hK.out.setCell (p := ⟨w.heap.size, k, none⟩) (Nat.le_refl _) _
      go_wp2
      exact ⟨⟨k + 1, by omega, by go_num, HR2, HK2⟩, by simp [intOf]; omega⟩
    · obtain rfl : k = n := by omega
      have HRA : Hid (RowAt wr.heap (.slice (some ⟨w.heap.size, 0, none⟩) k k) (List.replicate k c)) := by
        have h := (hR.out.congr (g := fun _ => c) fun j hj => by (try dsimp only); rw [if_pos hj]).at_ (by have := HN.out; omega)
        have e : (List.range k).map (fun _ => c) = List.replicate k c := by apply List.ext_getElem <;> simp
        show RowAt _ _ _
        rw [← e]; exact h
      have hcv := conv_row (P := Try.prog) (src := 56) (dst := 9) (e := 5) Try.underlying56 (by kernel_rfl) Try.underlying9 HRA.out
      go_wp2_with fail
      go_ret
      exact ⟨rfl, hK.out⟩
end Go.Proofs.Yteandjophamipaa
