/- The walk of the law CodeAny. -/
import Derived.Test.YtllfhaocdknejaaDoorCodeWk
import Derived.Test.YtllfhaocdknejaaDoorAnyM
namespace Go.Proofs.YtllfhaocdknejaaDoor
open Go.RowKit
attribute [local go_sem ↓] Go.wp_at_zero Go.wp_at_succ
/-- Which numbers have been used. -/
def usedC (N : Nat) (xs : List Nat) : Array Value := ⟨(List.range N).map fun j => .bool (decide (j ∈ xs))⟩
theorem used_nil (N : Nat) : reps N (.bool false) = usedC N [] := by
  unfold reps usedC
  congr 1
  refine List.ext_getElem (by simp) fun i h1 h2 => ?_
  rw [List.getElem_replicate, List.getElem_map]; simp
theorem used_at {N : Nat} {xs : List Nat} {n : Nat} (h : n < N) : (usedC N xs)[n]? = some (.bool (decide (n ∈ xs))) := by
  unfold usedC
  rw [← Array.getElem?_toList, List.getElem?_map, List.getElem?_range h]; rfl
theorem used_set {N : Nat} {xs : List Nat} {n : Nat} (h : n < N) : (usedC N xs).setIfInBounds n (.bool true) = usedC N (xs ++ [n]) := by
  apply Array.ext_getElem?
  intro i
  rw [Array.getElem?_setIfInBounds]
  have hs : (usedC N xs).size = N := by unfold usedC; simp
  by_cases hi : i < N
  · by_cases e : n = i
    · subst e
      rw [if_pos rfl, if_pos (by omega), used_at h]; simp
    · rw [if_neg e, used_at hi, used_at hi]
      have : i ≠ n := fun x => e x.symm
      simp [this]
  · have h1 : (usedC N xs)[i]? = none := by rw [Array.getElem?_eq_none]; omega
    have h2 : (usedC N (xs ++ [n]))[i]? = none := by rw [Array.getElem?_eq_none]; unfold usedC; simp; omega
    rw [if_neg (by omega), h1, h2]
theorem enc_row_len {K N : Nat} {d : List UInt8} {i : Nat} (hi : i < N) : ((encM K N d).getD i []).length = sizeN K d.length := by rw [encM_row hi]; simp
theorem top_snoc {M : List (List UInt8)} {j : Nat} (hj : j < M.length) : strB ((M.take j).flatten) ++ strB (M.getD j []) = strB ((M.take (j + 1)).flatten) := by
  rw [strB_append, flat_take hj, List.getD_eq_getElem?_getD, List.getElem?_eq_getElem hj]; rfl
/-- What the row of numbers is, while it is made: each once, no more than c; as long as there is room all that were passed are there. -/
def AnyI (N c R t : Nat) (xs : List Nat) : Prop := xs.Nodup ∧ (∀ x ∈ xs, x < N) ∧ xs.length ≤ c ∧ (xs.length < c → ∀ y, R + y < t → y < N → y ∈ xs)
theorem AnyI.nil (N c R : Nat) : AnyI N c R 0 [] := ⟨List.nodup_nil, fun x h => absurd h (by simp), Nat.zero_le _, fun _ y h => by omega⟩
theorem AnyI.push {N c R t n : Nat} {xs : List Nat} (h : AnyI N c R t xs) (hn : n < N) (hm : n ∉ xs) (hl : xs.length < c) (ht : R ≤ t → n = t - R) : AnyI N c R (t + 1) (xs ++ [n]) := by
  obtain ⟨h1, h2, h3, h4⟩ := h
  refine ⟨?_, fun x hx => ?_, by rw [List.length_append]; simp; omega, fun _ y hy hyN => ?_⟩
  · rw [List.nodup_append]
    exact ⟨h1, by simp, fun a ha b hb e => hm (by rw [List.mem_singleton.1 hb] at e; rw [← e]; exact ha)⟩
  · rcases List.mem_append.1 hx with hx | hx
    · exact h2 x hx
    · rw [List.mem_singleton.1 hx]; exact hn
  · rcases Nat.lt_or_ge (R + y) t with h' | h'
    · exact List.mem_append_left _ (h4 hl y h' hyN)
    · have := ht (by omega)
      exact List.mem_append_right _ (by rw [List.mem_singleton]; omega)
theorem AnyI.skip {N c R t n : Nat} {xs : List Nat} (h : AnyI N c R t xs) (hm : n ∈ xs ∨ ¬ xs.length < c) (ht : R ≤ t → n = t - R) : AnyI N c R (t + 1) xs := by
  obtain ⟨h1, h2, h3, h4⟩ := h
  refine ⟨h1, h2, h3, fun hl y hy hyN => ?_⟩
  rcases hm with hm | hm
  · rcases Nat.lt_or_ge (R + y) t with h' | h'
    · exact h4 hl y h' hyN
    · have := ht (by omega)
      have e : y = n := by omega
      rw [e]; exact hm
  · exact absurd hl hm
theorem AnyI.full {N c R : Nat} {xs : List Nat} (h : AnyI N c R (R + N) xs) (hc : c ≤ N) : xs.length = c := by
  obtain ⟨h1, h2, h3, h4⟩ := h
  rcases Nat.lt_or_ge xs.length c with hl | hl
  · have := sub_len (List.range N) xs List.nodup_range fun y hy => h4 hl y (by rw [List.mem_range] at hy; omega) (List.mem_range.1 hy)
    rw [List.length_range] at this; omega
  · omega
theorem nums_snoc (xs : List Nat) (n : Nat) : numsP (xs ++ [n]) = numsP xs ++ [(n : Int)] := List.map_append ..
theorem some_snoc (M : List (List UInt8)) (xs : List Nat) (n : Nat) : someP M (xs ++ [n]) = someP M xs ++ [strB (M.getD n [])] := List.map_append ..
/-- Rows of unlike types are not touched by one another. -/
theorem own_other {w w' : World} {base : Nat} {E F : TypeId} {v u : Value} {n m : Nat} {us ss : List Value} (hne : E ≠ F) (h : w.ownsRow base E 1 v n us) (k : w.ownsRow base F 1 u m ss) (c : Chg (fun b => v.ownBlock = some b) w w') : w'.ownsRow base F 1 u m ss :=
  owns_chg k c fun b hb hv => hne (by
    have h1 := (own_block h b hv).2.2
    have h2 := (own_block k b hb).2.2
    rw [h1] at h2; exact Option.some.inj h2)
theorem blk_other {w w' : World} {base : Nat} {E F : TypeId} {v : Value} {n b : Nat} {us : List Value} {cs : Array Value} (hne : E ≠ F) (h : w.ownsRow base E 1 v n us) (k : BlkAt w b F cs) (c : Chg (fun b => v.ownBlock = some b) w w') : BlkAt w' b F cs :=
  k.chg c fun hv => hne (by
    have h1 := (own_block h b hv).2.2
    have h2 := k.typ
    rw [h1] at h2; exact Option.some.inj h2)
theorem own_blk {w w' : World} {base : Nat} {E F : TypeId} {v : Value} {n b : Nat} {us : List Value} {cs : Array Value} (hne : E ≠ F) (h : w.ownsRow base E 1 v n us) (k : BlkAt w b F cs) (c : Chg (fun x => x = b) w w') : w'.ownsRow base E 1 v n us :=
  owns_chg h c fun x hx e => hne (by
    have h1 := (own_block h x hx).2.2
    have h2 := k.typ
    rw [e, h2] at h1; exact (Option.some.inj h1).symm)
theorem keeps_own {w4 w w' : World} {E : TypeId} {v : Value} {n : Nat} {us : List Value} (hk : Keeps w4 w) (h : w.ownsRow w4.heap.size E 1 v n us) (c : Chg (fun b => v.ownBlock = some b) w w') : Keeps w4 w' :=
  (hk.chg.trans (c.mono fun b _ hb => (own_block h b hb).1)).keeps fun b hb x => by omega
theorem seq_set {α : Type} {R : Value → α → Prop} {w : World} {b off n c : Nat} {l : List α} (s : SeqAt R w.heap (.slice (some ⟨b, off, none⟩) n c) l) {k : Nat} (hk : k < l.length) {u : Value} {x : α} (hu : R u x) : SeqAt R (w.setCell ⟨b, off + k, none⟩ u).heap (.slice (some ⟨b, off, none⟩) n c) (l.set k x) := by
  obtain ⟨a, cap, e, hl, hel⟩ := s
  injection e with e1 e2 e3
  subst e1 e3
  obtain ⟨bk, ok, uk, ek, ck, _⟩ := hel k hk
  injection ek with ek
  injection ek with ek1 ek2
  subst ek1 ek2
  refine ⟨_, c, by rw [List.length_set, e2], by rw [List.length_set]; exact hl, fun i hi => ?_⟩
  rw [List.length_set] at hi
  obtain ⟨bi, oi, ui, ei, ci, ri⟩ := hel i hi
  injection ei with ei
  injection ei with ei1 ei2
  subst ei1 ei2
  by_cases e : k = i
  · subst e
    exact ⟨b, off, u, rfl, by rw [cellH_set w b (off + k) b (off + k) u uk ck, if_pos ⟨rfl, rfl⟩], by rw [List.getElem_set_self]; exact hu⟩
  · exact ⟨b, off, ui, rfl, by rw [cellH_set w b (off + k) b (off + i) u uk ck, if_neg (fun h => e (by omega))]; exact ci, by rw [List.getElem_set_ne e]; exact ri⟩
theorem row_cellB {h : Array Obj} {B n c : Nat} {r : List UInt8} (s : RowIn (· = B) h (.slice (some ⟨B, 0, none⟩) n c) r) {i : Nat} (hi : i < r.length) : cellH h B i = some (.int .u8 (r[i].toNat : Int)) ∧ frozH h B i = false := by
  obtain ⟨a, cap, e, hl, hel⟩ := s
  injection e with e1 e2 e3
  subst e1
  obtain ⟨b, off, u, e1, ⟨e0, et⟩, e2, e3, e4⟩ := hel i hi
  injection e1 with e1
  injection e1 with e5 e6
  subst e5 e6
  rw [Nat.zero_add] at e2 e3
  unfold IsByte at e4
  exact ⟨by rw [e3, e4], e2⟩
theorem seq_other {α : Type} {R : Value → α → Prop} {w : World} {b off n c b' i : Nat} {l : List α} (s : SeqAt R w.heap (.slice (some ⟨b, off, none⟩) n c) l) (hne : b ≠ b') (u : Value) : SeqAt R (w.setCell ⟨b', i, none⟩ u).heap (.slice (some ⟨b, off, none⟩) n c) l := by
  obtain ⟨a, cap, e, hl, hel⟩ := s
  injection e with e1 e2 e3
  subst e1 e3
  refine ⟨_, c, by rw [e2], hl, fun j hj => ?_⟩
  obtain ⟨bj, oj, uj, ej, cj, rj⟩ := hel j hj
  injection ej with ej
  injection ej with ej1 ej2
  subst ej1 ej2
  exact ⟨b, off, uj, rfl, cellH_chg (T := fun x => x = b') (chg_set w b' i u) cj hne, rj⟩
theorem seqIn_froz {α : Type} {S : Nat → Prop} {E : TypeId} {R : Value → α → Prop} {w : World} {b off n c : Nat} {l : List α} (s : SeqIn S E R w.heap (.slice (some ⟨b, off, none⟩) n c) l) {k : Nat} (hk : k < l.length) : S b ∧ typH w.heap b = some E ∧ w.frozen? ⟨b, off + k, none⟩ = false := by
  obtain ⟨a, cap, e, hl, hel⟩ := s
  injection e with e1 e2 e3
  subst e1
  obtain ⟨bk, ok, uk, ek, ⟨e0, et⟩, fz, _⟩ := hel k hk
  injection ek with ek
  injection ek with ek1 ek2
  subst ek1 ek2
  exact ⟨e0, et, by rw [froz_of]; exact fz⟩
theorem mapB_at {M : List (List UInt8)} {i : Nat} (h : i < (M.map strB).length) : (M.map strB)[i] = strB (M.getD i []) := by
  rw [List.getElem_map, List.getD_eq_getElem?_getD, List.getElem?_eq_getElem (by rw [List.length_map] at h; exact h)]; rfl
def cany39 (K N K1 bc bh oh lx qh bp op qp : Nat) : Nat → Value → Prop
  | 11, v => ∃ s, v = .tuple #[.string s, .int .i64 54]
  | 12, v => ∃ s, v = .tuple #[.string s, .int .i64 54]
  | 13, v => ∃ s, v = .string s
  | i, v => v = ([.agg #[.int .i64 (K : Int), .int .i64 (N : Int)], .slice (some ⟨bh, oh, none⟩) lx qh, .pointer (some ⟨bc, 0, none⟩), .int .i64 (K : Int), .int .i64 (K1 : Int), .slice (some ⟨bh, oh, none⟩) K1 qh, .slice (some ⟨bp, op, none⟩) lx qp, .pointer (some ⟨bc, 0, none⟩), .int .i64 (K : Int), .int .i64 (K1 : Int), .slice (some ⟨bp, op, none⟩) K1 qp, undef, undef, undef, .int .i64 54, .int .i64 54] : List Value).getD i undef
set_option maxRecDepth 100000 in
set_option maxHeartbeats 8000000 in
theorem cany_any (k n : Int) (a : ByteArray) (vr : Value) (row : List Int) (more bad : Int) (x : UInt8) (w : World) (ha : a.size ≤ maxLen) (hr : SeqAt IsInt w.heap vr row) :
    Calls Tryd.prog 7 #[.agg #[.int .i64 k, .int .i64 n], .string a, vr, .int .i64 more, .int .i64 bad, .int .u8 (x.toNat : Int)] w fun e w' => e = .returned (.bool true) ∧ Keeps w w' := by
  have ha63 : a.size ≤ 9223372036854775807 := by unfold maxLen at ha; omega
  clear ha
  have hr63 : row.length ≤ 9223372036854775807 := let ⟨_, _, _, x, _⟩ := hr; x
  obtain ⟨pr, qr, rfl⟩ := seq_shape hr
  have HC0 : Hid (∀ wx, Keeps (w.alloc (.cells #[.int .i64 k, .int .i64 n] 23)) wx → wx.cell? ⟨w.heap.size, 0, none⟩ = some (.int .i64 k) ∧ wx.cell? ⟨w.heap.size, 1, none⟩ = some (.int .i64 n)) := fun wx hx => ⟨keeps_cell hx (World.cell?_alloc_new _ _ _ _), keeps_cell hx (World.cell?_alloc_new _ _ _ _)⟩
  have HROW := Lib.hid (SeqAt.keeps hr (kal w (.cells #[.int .i64 k, .int .i64 n] 23)))
  have HEA := Lib.hid (fun wx => cencode_any k n a wx ha63)
  have HK0 := Lib.hid (kal w (.cells #[.int .i64 k, .int .i64 n] 23))
  clear hr
  by_cases hbig : 3000 < a.size ∨ 100 < row.length
  · by_cases h1 : 3000 < a.size
    · have j1 : (3000 : Int) < (a.size : Int) := by omega
      clear hbig
      go_enter Tryd.func7, Tryd.ntmps7
      go_wp2_with fail
      refine Calls.mono (works_any _) ?_
      rintro e w1 ⟨rfl, hk⟩
      have HK1 := Lib.hid hk
      clear hk
      go_wp2_with fail
      refine Calls.mono (works_any _) ?_
      rintro e w2 ⟨rfl, hk⟩
      have HK2 := Lib.hid (HK1.out.trans hk)
      clear hk
      go_wp2_with fail
      go_ret
      exact ⟨rfl, HK0.out.trans HK2.out⟩
    · have h2 : 100 < row.length := by omega
      have j1 : ¬ (3000 : Int) < (a.size : Int) := by omega
      have j2 : (100 : Int) < (row.length : Int) := by omega
      clear hbig
      go_enter Tryd.func7, Tryd.ntmps7
      go_wp2_with fail
      refine Calls.mono (works_any _) ?_
      rintro e w1 ⟨rfl, hk⟩
      have HK1 := Lib.hid hk
      clear hk
      go_wp2_with fail
      refine Calls.mono (works_any _) ?_
      rintro e w2 ⟨rfl, hk⟩
      have HK2 := Lib.hid (HK1.out.trans hk)
      clear hk
      go_wp2_with fail
      go_ret
      exact ⟨rfl, HK0.out.trans HK2.out⟩
  · have h1 : ¬ 3000 < a.size := by omega
    have h2 : ¬ 100 < row.length := by omega
    have j1 : ¬ (3000 : Int) < (a.size : Int) := by omega
    have j2 : ¬ (100 : Int) < (row.length : Int) := by omega
    have ha3 : a.size ≤ 3000 := by omega
    cases hc : codeB k n with
    | false =>
      have HX : Hid (∀ d, encC k n d = ([], 1)) := fun d => by unfold encC; rw [hc]; rfl
      rw [HX.out] at HEA
      clear hc hbig
      go_enter Tryd.func7, Tryd.ntmps7
      go_wp2_with fail
      refine Calls.mono (works_any _) ?_
      rintro e w1 ⟨rfl, hk⟩
      have HK1 := Lib.hid hk
      obtain ⟨c0, c1⟩ := HC0.out _ hk
      clear hk
      go_wp2_with fail
      refine Calls.mono (HEA.out _) ?_
      rintro e w2 ⟨va, rfl, hva, hk⟩
      have HK2 := Lib.hid (HK1.out.trans hk)
      clear hk hva
      go_wp2_with fail
      go_ret
      exact ⟨rfl, HK0.out.trans HK2.out⟩
    | true =>
      obtain ⟨g1, g2, g3⟩ := codeB_true.1 hc
      obtain ⟨K, rfl⟩ := Int.eq_ofNat_of_zero_le (show 0 ≤ k by omega)
      obtain ⟨N, rfl⟩ := Int.eq_ofNat_of_zero_le (show 0 ≤ n by omega)
      have hK : 1 ≤ K := by omega
      have hKN : K ≤ N := by omega
      have hN : N ≤ 12 := by omega
      have HCB := Lib.hid hc
      have hX : encC (K : Int) (N : Int) a.data.toList = ((encM K N a.data.toList).map strB, 0) := by
        unfold encC; rw [hc, data_size, if_pos rfl, if_neg (by omega), Int.toNat_natCast, Int.toNat_natCast]
      rw [hX] at HEA
      have HSZ := Lib.hid (sizeC_yes (K := K) (m := a.size) hc (by omega))
      have hdl : a.data.toList.length = a.size := data_size a
      have hda : strB a.data.toList = a := strB_data a
      obtain ⟨d, hd⟩ : ∃ d, d = a.data.toList := ⟨_, rfl⟩
      rw [← hd] at hX HEA hdl hda
      have HDL := Lib.hid hdl
      have HDA := Lib.hid hda
      have HML : Hid ((encM K N d).length = N) := encM_len K N d
      have HMR : Hid (∀ i, i < N → ((encM K N d).getD i []).length = sizeN K a.size) := fun i hi => by rw [enc_row_len hi, hdl]
      have HWH : Hid (((encM K N d).take K).flatten = wholeB K d) := enc_whole hK hKN
      have HWL : Hid (8 + a.size ≤ (wholeB K d).length) := by have := whole_long (d := d) hK; rw [hdl] at this; exact this
      have HWB : Hid (((wholeB K d).drop 8).take a.size = d) := by have := whole_blob (K := K) (d := d); rw [hdl] at this; exact this
      have HW6 : Hid (((wholeB K d).getD 6 0).toNat * 256 + ((wholeB K d).getD 7 0).toNat = a.size) := by have := whole_six (K := K) (d := d) (by omega); rw [hdl] at this; exact this
      have HSL : Hid (sizeN K a.size ≤ 8 + a.size ∧ 1 ≤ sizeN K a.size) := ⟨sizeN_le hK, sizeN_pos hK⟩
      generalize hMM : encM K N d = M at *
      have HMM := Lib.hid hMM
      clear hMM hX hc hbig hd hdl hda
      generalize hzz : sizeN K a.size = sz at *
      have hz1 := HSL.out.1
      clear hzz
      go_enter Tryd.func7, Tryd.ntmps7
      go_wp2_with fail
      refine Calls.mono (works_any _) ?_
      rintro e w1 ⟨rfl, hk⟩
      have HK1 := Lib.hid hk
      obtain ⟨c0, c1⟩ := HC0.out _ hk
      clear hk
      go_wp2_with fail
      refine Calls.mono (HEA.out _) ?_
      rintro e w2 ⟨va, rfl, hva, hk⟩
      have HLN : Hid ((M.map strB).length = N) := by show _ = _; rw [List.length_map]; exact HML.out
      obtain ⟨pa, qa, rfl⟩ := seq_shape hva.at_
      have HVA := Lib.hid hva
      have HK2 := Lib.hid (HK1.out.trans hk)
      obtain ⟨c0, c1⟩ := HC0.out _ HK2.out
      clear hk hva
      rw [HLN.out] at HVA ⊢
      go_wp2_with fail
      refine Calls.mono (csize_any _ _ _ _ (by omega) (by omega)) ?_
      rintro e w3 ⟨rfl, hk⟩
      rw [HSZ.out]
      have HVA3 := Lib.hid (SeqAt.keeps (SeqIn.at_ HVA.out) hk)
      have HK3 := Lib.hid (HK2.out.trans hk)
      obtain ⟨c0, c1⟩ := HC0.out _ HK3.out
      clear hk
      go_wp2_with fail
      go_loopw [16, 17] (fun v i wr => ∃ j : Nat, j ≤ N ∧ i = .int .i64 j ∧ v = .string (strB ((M.take (min j K)).flatten)) ∧ w3 = wr) (fun _ i _ => N - (intOf i).toNat)
      case atStart => exact ⟨0, by omega, rfl, by rw [Nat.zero_min]; rfl, rfl⟩
      case round =>
        obtain ⟨j, hj, rfl, rfl, rfl⟩ := hrel
        by_cases hlt : j < N
        · have hlt64 : (j : Int) < (N : Int) := by omega
          -- <L1
          have hj0 : (0 : Int) ≤ (j : Int) := by omega
          obtain ⟨b1, o1, rfl, d1⟩ := text_cellH HVA3.out (i := j) (by rw [HLN.out]; exact hlt)
          have HAT := Lib.hid (mapB_at (M := M) (i := j) (by rw [HLN.out]; exact hlt))
          rw [HAT.out] at d1
          have HSB : Hid ((strB (M.getD j [])).size = sz) := by show _ = _; rw [strB_size]; exact HMR.out j hlt
          by_cases hjk : j < K
          · have hjk64 : (j : Int) < (K : Int) := by omega
            have HTS := Lib.hid (top_snoc (M := M) (j := j) (by rw [HML.out]; exact hlt))
            have m1 : min j K = j := by omega
            have m2 : min (j + 1) K = j + 1 := by omega
            have HFS : Hid ((strB ((M.take j).flatten)).size ≤ 100000) := by
              show _ ≤ _
              have h1 := (flat_rows (M.take j) sz fun r hr => by
                obtain ⟨i, hi, rfl⟩ := List.mem_iff_getElem.1 (List.mem_of_mem_take hr)
                have := HMR.out i (by rw [HML.out] at hi; exact hi)
                rw [List.getD_eq_getElem?_getD, List.getElem?_eq_getElem hi] at this
                exact this).1
              rw [strB_size, h1, List.length_take, Nat.min_eq_left (by rw [HML.out]; omega)]
              have : sz * j ≤ 3008 * 12 := Nat.mul_le_mul (by omega) (by omega)
              omega
            rw [m1]
            generalize strB (M.getD j []) = s at *
            generalize strB ((M.take j).flatten) = u at *
            have hus := HFS.out
            have hss := HSB.out
            go_wp2_with fail
            exact ⟨⟨j + 1, by omega, by go_num, by rw [HTS.out, m2], by first | rfl | trivial⟩, by simp [intOf]; omega⟩
          · have hjk64 : ¬ (j : Int) < (K : Int) := by omega
            have m1 : min j K = min (j + 1) K := by omega
            rw [m1]
            generalize strB (M.getD j []) = s at *
            generalize hu : strB ((M.take (min (j + 1) K)).flatten) = u at *
            have HU := Lib.hid hu
            clear hu
            have hss := HSB.out
            go_wp2_with fail
            exact ⟨⟨j + 1, by omega, by go_num, by rw [HU.out], by first | rfl | trivial⟩, by simp [intOf]; omega⟩
          -- L1>
        · have ejn : N = j := by omega
          subst ejn
          have m1 : min N K = K := by omega
          rw [m1, HWH.out]
          have HW0 := Lib.hid (index_at (wholeB K d))
          have hsl := slice_mid (wholeB K d) a.size HWL.out
          rw [HWB.out, HDA.out] at hsl
          have hix6 : ∀ wx : World, (Instr.index 9 (.string (strB (wholeB K d))) (.int .i64 6)).run Tryd.prog wx = .ok (.int .u8 (((wholeB K d).getD 6 0).toNat : Int)) wx := HW0.out 6 (by have := HWL.out; omega)
          have hix7 : ∀ wx : World, (Instr.index 9 (.string (strB (wholeB K d))) (.int .i64 7)).run Tryd.prog wx = .ok (.int .u8 (((wholeB K d).getD 7 0).toNat : Int)) wx := HW0.out 7 (by have := HWL.out; omega)
          have u6 := UInt8.toNat_lt ((wholeB K d).getD 6 0)
          have u7 := UInt8.toNat_lt ((wholeB K d).getD 7 0)
          generalize ((wholeB K d).getD 6 0).toNat = b6 at *
          generalize ((wholeB K d).getD 7 0).toNat = b7 at *
          clear HW0
          generalize strB (wholeB K d) = W at *
          have hw6 : (b6 : Int) * 256 + (b7 : Int) = (a.size : Int) := by have := HW6.out; omega
          have hw7 : ((b6 : Int) * 256 + (b7 : Int) != (a.size : Int)) = false := by rw [bne_eq_false_iff_eq]; exact hw6
          have hmk := run_mk (P := Tryd.prog) 42 4 1 (.bool false) Tryd.underlying42 (by kernel_rfl) rfl N (by omega) (by omega)
          go_wp2_with fail
          go_quiet (fail)
          go_wp2_with fail
          clear hmk hw6 hw7 hix6 hix7 hsl u6 u7 HW6 HWH HWL HWB m1 hlt hj
          have HV4 : Hid (SeqAt IsText (w3.drewN nq).heap (.slice pa N qa) (M.map strB)) := HVA3.out
          have HK4 : Hid (Keeps (w.alloc (.cells #[.int .i64 (K : Int), .int .i64 (N : Int)] 23)) (w3.drewN nq)) := HK3.out
          have hs4 : w3.heap.size = (w3.drewN nq).heap.size := rfl
          rw [hs4]
          clear HVA3 HK3 c0 c1
          generalize w3.drewN nq = w4 at *
          clear hs4
          have HKA := Lib.hid (kal w4 (.cells (reps N (.bool false)) 4))
          have HU0 : Hid (BlkAt (w4.alloc (.cells (reps N (.bool false)) 4)) w4.heap.size 4 (usedC N [])) := by show BlkAt _ _ _ _; rw [← used_nil]; exact BlkAt.new _ _ _
          obtain ⟨q, hq⟩ : ∃ q, q = N - K + 1 := ⟨_, rfl⟩
          obtain ⟨κ, hκ, hke⟩ := rem_some more q (by omega) (by omega)
          have hq1 : ((q : Nat) : Int) = (N : Int) - (K : Int) + 1 := by omega
          rw [hq1] at hke
          clear hq1
          obtain ⟨c, hc⟩ : ∃ c, c = K + κ := ⟨_, rfl⟩
          have hcN : c ≤ N := by omega
          have hc64 : (K : Int) + (κ : Int) = (c : Int) := by omega
          have hc65 : wrap64 ((K : Int) + (κ : Int)) = (c : Int) := by rw [IntWalk.wrap64_in _ (by omega)]; exact hc64
          have HCE := Lib.hid hc
          have HQE := Lib.hid hq
          clear hc hc64 hq
          have HRB := Lib.hid (fun z (hz : z ∈ row) => rem_some z N (by omega) (by omega))
          go_loopw [18, 19, 21, 22] (fun vh vp i _ wr => ∃ (t : Nat) (xs : List Nat), t ≤ row.length + N ∧ i = .int .i64 t ∧ Hid (AnyI N c row.length t xs) ∧ Hid (BlkAt wr w4.heap.size 4 (usedC N xs)) ∧ Hid (OwnSeq w4.heap.size 3 IsInt wr vh (numsP xs)) ∧ Hid (OwnSeq w4.heap.size 9 IsText wr vp (someP M xs)) ∧ Hid (Keeps w4 wr)) (fun _ _ i _ _ => row.length + N - (intOf i).toNat)
          case atStart => exact ⟨0, [], by omega, rfl, AnyI.nil _ _ _, HU0, OwnSeq.nil _ _ _ _, OwnSeq.nil _ _ _ _, HKA⟩
          case round =>
            obtain ⟨t, xs, ht, rfl, hI, hB, hH, hP, hK⟩ := hrel
            obtain ⟨wi, rfl⟩ : ∃ wi : World, wi = wr := ⟨_, rfl⟩
            obtain ⟨c0, c1⟩ := HC0.out _ (HK4.out.trans hK.out)
            by_cases hlt : t < row.length + N
            · have hlt64 : (t : Int) < (row.length : Int) + (N : Int) := by omega
              obtain ⟨n, hnN, hn1, hn2⟩ : ∃ n, n < N ∧ (row.length ≤ t → n = t - row.length) ∧ ∀ h : t < row.length, wrap64 ((IntKind.u64.wrap row[t]).tmod (N : Int)) = (n : Int) := by
                by_cases h : t < row.length
                · obtain ⟨n, h1, h2⟩ := HRB.out row[t] (List.getElem_mem h)
                  exact ⟨n, h1, fun h' => by omega, fun _ => h2⟩
                · exact ⟨t - row.length, by omega, fun _ => rfl, fun h' => absurd h' h⟩
              -- <L2
              have HN1 := Lib.hid hn1
              clear hn1
              go_upto_if 125 with (fail)
              go_cut [22] (fun s wx => s = .int .i64 (n : Int) ∧ ∃ m, wx = wi.drewN m)
              case first =>
                by_cases hr : t < row.length
                · have hr64 : (t : Int) < (row.length : Int) := by omega
                  have ht0 : (0 : Int) ≤ (t : Int) := by omega
                  obtain ⟨b5, o5, rfl, d5⟩ := int_cellP (SeqAt.keeps HROW.out (HK4.out.trans hK.out)) hr
                  have hrem := hn2 hr
                  clear hn2
                  generalize row[t] = z at *
                  go_wp2_with fail
                  go_quiet (fail)
                  go_wp2_with fail
                  go_meet
                  exact ⟨by rw [hrem], _, rfl⟩
                · have hr64 : ¬ (t : Int) < (row.length : Int) := by omega
                  have hnt := HN1.out (by omega)
                  clear hn2
                  go_wp2_with fail
                  go_meet
                  exact ⟨by rw [hnt]; congr 1; omega, 0, rfl⟩
              case rest =>
                obtain ⟨rfl, m5, rfl⟩ := hcut
                have HB5 : Hid (BlkAt (wi.drewN m5) w4.heap.size 4 (usedC N xs)) := hB.out
                have HK5 : Hid (Keeps w4 (wi.drewN m5)) := hK.out
                have HH5 : Hid (OwnSeq w4.heap.size 3 IsInt (wi.drewN m5) u18 (numsP xs)) := hH.out
                have HP5 : Hid (OwnSeq w4.heap.size 9 IsText (wi.drewN m5) u19 (someP M xs)) := hP.out
                generalize wi.drewN m5 = w5 at *
                clear hB hK hH hP hn2 c0 c1
                obtain ⟨us, hu1, hu2, hu3⟩ := HH5.out
                obtain ⟨ss, hs1, hs2, hs3⟩ := HP5.out
                have hul : us.length = xs.length := by rw [hu2, numsP_len]
                have hsl : ss.length = xs.length := by rw [hs2, someP_len]
                obtain ⟨ph, qh, rfl⟩ := own_slice hu1
                obtain ⟨pp, qp, rfl⟩ := own_slice hs1
                have HU := Lib.hid hu1
                have HU2 := Lib.hid hu2
                have HU3 := Lib.hid hu3
                have HUL := Lib.hid hul
                have HS := Lib.hid hs1
                have HS2 := Lib.hid hs2
                have HS3 := Lib.hid hs3
                have HSL5 := Lib.hid hsl
                have hn64 : (n : Int) < (N : Int) := by omega
                have hn0 : (0 : Int) ≤ (n : Int) := by omega
                have du := BlkAt.cell HB5.out (used_at (xs := xs) hnN)
                obtain ⟨c0, c1⟩ := HC0.out _ (HK4.out.trans HK5.out)
                clear hu1 hu2 hu3 hs1 hs2 hs3 hsl
                have hxl : xs.length ≤ c := hI.out.2.2.1
                by_cases hm : n ∈ xs
                · rw [decide_eq_true hm] at du
                  have HI2 := Lib.hid (AnyI.skip hI.out (.inl hm) HN1.out)
                  go_wp2_with fail
                  go_quiet (fail)
                  go_wp2_with fail
                  exact ⟨⟨t + 1, xs, by omega, by go_num, HI2, HB5, by first | exact HH5 | (rw [← HUL.out]; exact HH5), HP5, HK5⟩, by simp [intOf]; omega⟩
                · rw [decide_eq_false hm] at du
                  by_cases hlc : xs.length < c
                  · have hl64 : (xs.length : Int) < (c : Int) := by omega
                    have hl65 : decide ((xs.length : Int) < (c : Int)) = true := decide_eq_true hl64
                    have dud : ∀ m, (w5.drewN m).cell? ⟨w4.heap.size, n, none⟩ = some (.bool false) := fun _ => du
                    have fud : ∀ m, (w5.drewN m).frozen? ⟨w4.heap.size, n, none⟩ = false := fun _ => BlkAt.froz HB5.out n
                    go_wp2_with fail
                    go_quiet (fail)
                    go_upto_region 28 with (fail)
                    obtain ⟨b1, o1, rfl, d1⟩ := text_cellH HV4.out (i := n) (by rw [HLN.out]; exact hnN)
                    have HAT := Lib.hid (mapB_at (M := M) (i := n) (by rw [HLN.out]; exact hnN))
                    rw [HAT.out] at d1
                    have D1 := Lib.hid d1
                    have HC6 : Hid (Chg (fun k => k = w4.heap.size) w5 ((w5.drewN nq).setCell ⟨w4.heap.size, n, none⟩ (.bool true))) := chg_set (w5.drewN nq) w4.heap.size n (.bool true)
                    have HB5' : BlkAt (w5.drewN nq) w4.heap.size 4 (usedC N xs) := HB5.out
                    have hb6 := HB5'.set n (.bool true)
                    rw [used_set hnN] at hb6
                    have HB6 := Lib.hid hb6
                    have HU6 := Lib.hid (own_blk (by decide) HU.out HB5.out HC6.out)
                    have HS6 := Lib.hid (own_blk (by decide) HS.out HB5.out HC6.out)
                    have HK6 : Hid (Keeps w4 ((w5.drewN nq).setCell ⟨w4.heap.size, n, none⟩ (.bool true))) := (HK5.out.chg.trans (HC6.out.mono fun b _ hb => by omega)).keeps fun b hb x => by omega
                    generalize (w5.drewN nq).setCell ⟨w4.heap.size, n, none⟩ (.bool true) = w6 at *
                    clear hb6 HB5' HB5 HH5 HP5 HC6 HK5 HU HS dud fud du c0 c1 d1
                    have hsz6 := HK6.out.size
                    have hxl2 : us.length ≤ 12 := by have := HUL.out; omega
                    have hxl3 : ss.length ≤ 12 := by have := HSL5.out; omega
                    have HSM := Lib.hid (some_snoc M xs n)
                    have HI2 := Lib.hid (AnyI.push hI.out hnN hm hlc HN1.out)
                    generalize strB (M.getD n []) = s at *
                    go_upto_region 29 with (at_builtin; refine wp_app1 elInt rfl (.tmp 163) (.tmp 165) rfl w4.heap.size (.slice ph us.length qh) us rfl (HU6.out.alloc _) _ (.int .i64 (n : Int)) rfl (World.cell?_alloc_new _ _ _ _) rfl (by omega) (by simp; omega) ?_; intro v7 w7 hown7 hchg7; have HH7 := Lib.hid (OwnSeq.push (R := IsInt) (R' := IsInt) (l := numsP xs) (x := (n : Int)) HU2.out HU3.out hown7 (fun _ _ _ x => x) rfl); have HS7 := Lib.hid (own_other (by decide) (HU6.out.alloc _) (HS6.out.alloc _) hchg7); have HB7 := Lib.hid (blk_other (by decide) (HU6.out.alloc _) (HB6.out.keeps (kal w6 _)) hchg7); have HK7 := Lib.hid (keeps_own (HK6.out.trans (kal w6 _)) (HU6.out.alloc _) hchg7); clear hown7 hchg7)
                    rw [← nums_snoc] at HH7
                    obtain ⟨us7, g1, g2, g3⟩ := HH7.out
                    obtain ⟨pv7, qv7, rfl⟩ := own_slice g1
                    have HO7 := Lib.hid g1
                    have HG2 := Lib.hid g2
                    have HG3 := Lib.hid g3
                    clear g1 g2 g3
                    have d7 := keeps_cell HK7.out D1.out
                    have hsz7 := HK7.out.size
                    go_wp2_with (at_builtin; refine wp_app1 elText rfl (.tmp 167) (.tmp 172) rfl w4.heap.size (.slice pp ss.length qp) ss rfl (HS7.out.alloc _) _ (.string s) rfl (World.cell?_alloc_new _ _ _ _) rfl (by omega) (by simp; omega) ?_; intro v8 w8 hown8 hchg8; have HP8 := Lib.hid (OwnSeq.push (R := IsText) (R' := IsText) (l := someP M xs) (x := s) HS2.out HS3.out hown8 (fun _ _ _ x => x) rfl); have HO8 := Lib.hid (own_other (by decide) (HS7.out.alloc _) (HO7.out.alloc _) hchg8); have HB8 := Lib.hid (blk_other (by decide) (HS7.out.alloc _) (HB7.out.keeps (kal w7 _)) hchg8); have HK8 := Lib.hid (keeps_own (HK7.out.trans (kal w7 _)) (HS7.out.alloc _) hchg8); clear hown8 hchg8)
                    rw [← HSM.out] at HP8
                    exact ⟨⟨t + 1, xs ++ [n], by omega, by go_num, HI2, HB8, ⟨us7, HO8.out, HG2.out, HG3.out⟩, HP8, HK8⟩, by simp [intOf]; omega⟩
                  · have hl64 : ¬ (xs.length : Int) < (c : Int) := by omega
                    have hl65 : decide ((xs.length : Int) < (c : Int)) = false := decide_eq_false hl64
                    have HI2 := Lib.hid (AnyI.skip hI.out (.inr hlc) HN1.out)
                    go_wp2_with fail
                    go_quiet (fail)
                    go_wp2_with fail
                    exact ⟨⟨t + 1, xs, by omega, by go_num, HI2, HB5, by first | exact HH5 | (rw [← HUL.out]; exact HH5), HP5, HK5⟩, by simp [intOf]; omega⟩
              -- L2>
            · have et : t = row.length + N := by omega
              have hI' : AnyI N c row.length (row.length + N) xs := by rw [← et]; exact hI.out
              have hxl : xs.length = c := AnyI.full hI' hcN
              have ht64 : ¬ (t : Int) < (row.length : Int) + (N : Int) := by omega
              clear hI' et hlt ht
              have hnd := hI.out.1
              have hbd := hI.out.2.1
              have HCB' := HCB.out
              have hkx : K ≤ xs.length := by have := HCE.out; omega
              have hd32 : d.length ≤ 32768 := by have := HDL.out; omega
              obtain ⟨f1, f2⟩ := some_fits (d := d) HCB.out hnd hbd hkx hd32
              have HREB : Hid (∀ i, i < N → rebD K N (numsP xs) (someP M xs) i = (strB (M.getD i []), 0)) := fun i hi => by rw [← HMM.out]; exact some_reb HCB.out hnd hbd hkx hd32 hi
              have HFEW : Hid (errD K N ((numsP xs).take (K - 1)) ((someP M xs).take (K - 1)) = 54) := some_few HCB.out hnd hbd hkx (someP_len _ _)
              have HBAD : Hid (∀ k (h : k < xs.length) s, c ≠ K → s ≠ strB (M.getD xs[k] []) → errD K N (numsP xs) ((someP M xs).set k s) = 4) := fun k h s hne hs => by
                rw [← HMM.out]
                exact some_bad HCB.out hnd hbd hkx (by have := HCE.out; omega) hd32 h (by rw [HMM.out]; exact hs)
              rw [HMM.out] at f1 f2
              have F1 := Lib.hid f1
              have F2 := Lib.hid f2
              clear f1 f2
              have HPS : Hid (∀ p ∈ someP M xs, p.size ≤ 1000000) := fun p hp => by
                obtain ⟨y, hy, rfl⟩ := List.mem_map.1 hp
                rw [strB_size, HMR.out y (hbd y hy)]; omega
              have HIN : Hid (∀ z ∈ numsP xs, inI z) := fun z hz => by
                obtain ⟨y, hy, rfl⟩ := List.mem_map.1 hz
                have := hbd y hy
                exact ⟨by omega, by omega⟩
              have HHS : Hid (SeqAt IsInt wi.heap u18 (numsP xs)) := SeqIn.at_ (hH.out.seq (by rw [numsP_len]; omega))
              have HPSQ : Hid (SeqAt IsText wi.heap u19 (someP M xs)) := SeqIn.at_ (hP.out.seq (by rw [someP_len]; omega))
              have hcx : CapOk u18 := by obtain ⟨us, h, _⟩ := hH.out; exact own_capok h
              have hcy : CapOk u19 := by obtain ⟨us, h, _⟩ := hP.out; exact own_capok h
              have HKW : Hid (Keeps (w.alloc (.cells #[.int .i64 (K : Int), .int .i64 (N : Int)] 23)) wi) := HK4.out.trans hK.out
              have HVL : Hid (SeqAt IsText wi.heap (.slice pa N qa) (M.map strB)) := SeqAt.keeps HV4.out hK.out
              have HDEC : Hid (∀ wx, Keeps wi wx → Calls Tryd.prog 9 #[.agg #[.int .i64 (K : Int), .int .i64 (N : Int)], u18, u19] wx fun e w' => e = .returned (.tuple #[.string a, .int .i64 0]) ∧ Keeps wx w') := fun wx hx => by
                have := decode_any K N u18 u19 (numsP xs) (someP M xs) wx HPS.out HIN.out (SeqAt.keeps HHS.out hx) (SeqAt.keeps HPSQ.out hx) hcx hcy
                rw [F1.out, F2.out] at this
                have e : strB ((some d).getD []) = a := HDA.out
                rw [e] at this
                exact this
              have HREC : Hid (∀ wx (i : Nat), i < N → Keeps wi wx → Calls Tryd.prog 11 #[.agg #[.int .i64 (K : Int), .int .i64 (N : Int)], u18, u19, .int .i64 (i : Int)] wx fun e w' => e = .returned (.tuple #[.string (strB (M.getD i [])), .int .i64 0]) ∧ Keeps wx w') := fun wx i hi hx => by
                have := rebuild_any K N u18 u19 (numsP xs) (someP M xs) i wx HPS.out HIN.out (SeqAt.keeps HHS.out hx) (SeqAt.keeps HPSQ.out hx) hcx hcy
                rw [HREB.out i hi] at this
                exact this
              obtain ⟨ph, nh, qh, rfl, hch⟩ := hcx
              obtain ⟨pp, np, qp, rfl, hcp⟩ := hcy
              have e1 : nh = xs.length := by
                obtain ⟨_, _, e1⟩ := seq_shape HHS.out
                injection e1 with _ e1 _
                rw [e1, numsP_len]
              subst e1
              have e1 : np = xs.length := by
                obtain ⟨_, _, e1⟩ := seq_shape HPSQ.out
                injection e1 with _ e1 _
                rw [e1, someP_len]
              subst e1
              obtain ⟨bh, oh, rfl, dead1⟩ := int_cellP HHS.out (i := 0) (by rw [numsP_len]; omega)
              obtain ⟨bp, op, rfl, dead2⟩ := text_cellH HPSQ.out (i := 0) (by rw [someP_len]; omega)
              clear dead1 dead2
              have HDEF : Hid (∀ wx, Keeps wi wx → Calls Tryd.prog 9 #[.agg #[.int .i64 (K : Int), .int .i64 (N : Int)], .slice (some ⟨bh, oh, none⟩) (K - 1) qh, .slice (some ⟨bp, op, none⟩) (K - 1) qp] wx fun e w' => (∃ s, e = .returned (.tuple #[.string s, .int .i64 54])) ∧ Keeps wx w') := fun wx hx => by
                have := decode_any K N (.slice (some ⟨bh, oh, none⟩) (K - 1) qh) (.slice (some ⟨bp, op, none⟩) (K - 1) qp) ((numsP xs).take (K - 1)) ((someP M xs).take (K - 1)) wx (fun p hp => HPS.out p (List.mem_of_mem_take hp)) (fun z hz => HIN.out z (List.mem_of_mem_take hz)) (SeqAt.front (SeqAt.keeps HHS.out hx) (by rw [numsP_len]; omega)) (SeqAt.front (SeqAt.keeps HPSQ.out hx) (by rw [someP_len]; omega)) ⟨_, _, _, rfl, by omega⟩ ⟨_, _, _, rfl, by omega⟩
                rw [HFEW.out] at this
                exact this.mono fun e w' h => ⟨⟨_, h.1⟩, h.2⟩
              obtain ⟨K1, hK1e⟩ : ∃ K1, K1 = K - 1 := ⟨_, rfl⟩
              rw [← hK1e] at HDEF
              have hk1 : (K : Int) - 1 = (K1 : Int) := by omega
              have hk2 : K1 ≤ qh := by omega
              have hk3 : K1 ≤ qp := by omega
              have hk4 : (K1 : Int) ≤ (qh : Int) := by omega
              have hk5 : (K1 : Int) ≤ (qp : Int) := by omega
              have HXL := Lib.hid hxl
              have HBD := Lib.hid hbd
              clear HREB HFEW hI hB hke hκ hK1e hnd hbd hkx hd32 HCB' hc65 hxl
              -- <L3
              go_wp2_with fail
              refine Calls.mono (HDEC.out _ (keeps_refl _)) ?_
              rintro e w5 ⟨rfl, hk⟩
              have HK5 := Lib.hid hk
              obtain ⟨c0, c1⟩ := HC0.out _ (HKW.out.trans hk)
              clear hk
              go_wp2_with fail
              go_loopw [24] (fun i wr => ∃ j : Nat, j ≤ N ∧ i = .int .i64 j ∧ Hid (Keeps wi wr)) (fun i _ => N - (intOf i).toNat)
              case atStart => exact ⟨0, by omega, rfl, HK5⟩
              case round =>
                obtain ⟨j, hj, rfl, hK6⟩ := hrel
                obtain ⟨c0, c1⟩ := HC0.out _ (HKW.out.trans hK6.out)
                by_cases hlt : j < N
                · have hlt64 : (j : Int) < (N : Int) := by omega
                  have hj0 : (0 : Int) ≤ (j : Int) := by omega
                  go_wp2_with fail
                  refine Calls.mono (HREC.out _ j hlt hK6.out) ?_
                  rintro e w6 ⟨rfl, hk⟩
                  have HK6 := Lib.hid (hK6.out.trans hk)
                  obtain ⟨b1, o1, rfl, d1⟩ := text_cellH (SeqAt.keeps HVL.out HK6.out) (i := j) (by rw [HLN.out]; exact hlt)
                  have HAT := Lib.hid (mapB_at (M := M) (i := j) (by rw [HLN.out]; exact hlt))
                  rw [HAT.out] at d1
                  clear hk c0 c1
                  generalize strB (M.getD j []) = s at *
                  go_wp2_with fail
                  exact ⟨⟨j + 1, by omega, by go_num, HK6⟩, by simp [intOf]; omega⟩
                · have ej : N = j := by omega
                  subst ej
                  go_upto_region 39 with (fail)
                  have C0 := Lib.hid c0
                  have C1 := Lib.hid c1
                  have HK7 := Lib.hid hK6.out
                  have HW1 : Hid (IntKind.i64.wrap (K1 : Int) = (K1 : Int)) := IntWalk.i64_in _ (by omega)
                  clear c0 c1 hlt hj
                  generalize wr = w7 at *
                  refine wp_region_stage [213, 214, 215, 216, 217, 218, 219, 220, 221, 222, 223, 224, 212, 225, 226, 14] [[], [], [], [2], [3], [1, 4], [], [], [7], [8], [6, 9], [0, 5, 10], [11], [12], [12], [14]] [] [0, 0, 0, 0, 0, 0, 0, 0, 0, 0, 0, 0, 0, 0, 0, 0] [] (fun i v _ => cany39 K N K1 w.heap.size bh oh xs.length qh bp op qp i v) (fun w w' => Keeps w w') (fun _ _ w' => Keeps w7 w') (by kernel_rfl) (by kernel_rfl) (by kernel_rfl) (by kernel_rfl) (by kernel_rfl) (by kernel_rfl) (by kernel_rfl) ?_ ?_ ?_ ?_ ?_ ?_ ?_
                  · exact fun i v w w' c h => h
                  · exact fun w => keeps_refl w
                  · exact fun i s vs w _ h => h
                  · refine ⟨?_, ?_, ?_, ?_, ?_, ?_, ?_, ?_, ?_, ?_, ?_, ?_, ?_, ?_, ?_, ?_, trivial⟩
                    · exact fun g b h => by (cases h)
                    · exact fun g b h => by (cases h)
                    · exact fun g b h => by (cases h)
                    · exact fun g b h => by (cases h)
                    · exact fun g b h => by (cases h)
                    · exact fun g b h => by (cases h)
                    · exact fun g b h => by (cases h)
                    · exact fun g b h => by (cases h)
                    · exact fun g b h => by (cases h)
                    · exact fun g b h => by (cases h)
                    · exact fun g b h => by (cases h)
                    · exact fun g b h => by (cases h)
                    · exact fun g b h => by (cases h)
                    · exact fun g b h => by (cases h)
                    · exact fun g b h => by (cases h)
                    · exact fun g b h => by (cases h)
                  · exact fun _ _ => keeps_refl w7
                  · refine ⟨?_, ?_, ?_, ?_, ?_, ?_, ?_, ?_, ?_, ?_, ?_, ?_, ?_, ?_, ?_, ?_, trivial⟩
                    · intro _ a w1 vs hI ho hn hu KQ hK
                      have e6 : a.tmps[6]? = some (.pointer (some ⟨w.heap.size, 0, none⟩)) := ho 6 rfl
                      clear hn ho hu
                      have c0 := keeps_cell hI C0.out
                      have c1 := keeps_cell hI C1.out
                      go_simp
                      exact hK _ _ (keeps_refl _) hI rfl
                    · intro _ a w1 vs hI ho hn hu KQ hK
                      have e18 : a.tmps[18]? = some (.slice (some ⟨bh, oh, none⟩) xs.length qh) := ho 18 rfl
                      clear hn ho hu
                      go_simp
                      exact hK _ _ (keeps_refl _) hI rfl
                    · intro _ a w1 vs hI ho hn hu KQ hK
                      have e6 : a.tmps[6]? = some (.pointer (some ⟨w.heap.size, 0, none⟩)) := ho 6 rfl
                      clear hn ho hu
                      go_simp
                      exact hK _ _ (keeps_refl _) hI rfl
                    · intro _ a w1 vs hI ho hn hu KQ hK
                      obtain ⟨e215, g215⟩ : a.tmps[215]? = some (vs 2) ∧ vs 2 = .pointer (some ⟨w.heap.size, 0, none⟩) := hn 2 (by decide)
                      rw [g215] at e215
                      clear g215
                      clear hn ho hu
                      have c0 := keeps_cell hI C0.out
                      have c1 := keeps_cell hI C1.out
                      go_simp
                      exact hK _ _ (keeps_refl _) hI rfl
                    · intro _ a w1 vs hI ho hn hu KQ hK
                      obtain ⟨e216, g216⟩ : a.tmps[216]? = some (vs 3) ∧ vs 3 = .int .i64 (K : Int) := hn 3 (by decide)
                      rw [g216] at e216
                      clear g216
                      clear hn ho hu
                      go_simp
                      rw [HW1.out]
                      exact hK _ _ (keeps_refl _) hI rfl
                    · intro _ a w1 vs hI ho hn hu KQ hK
                      obtain ⟨e214, g214⟩ : a.tmps[214]? = some (vs 1) ∧ vs 1 = .slice (some ⟨bh, oh, none⟩) xs.length qh := hn 1 (by decide)
                      rw [g214] at e214
                      clear g214
                      obtain ⟨e217, g217⟩ : a.tmps[217]? = some (vs 4) ∧ vs 4 = .int .i64 (K1 : Int) := hn 4 (by decide)
                      rw [g217] at e217
                      clear g217
                      clear hn ho hu
                      go_simp
                      exact hK _ _ (keeps_refl _) hI rfl
                    · intro _ a w1 vs hI ho hn hu KQ hK
                      have e19 : a.tmps[19]? = some (.slice (some ⟨bp, op, none⟩) xs.length qp) := ho 19 rfl
                      clear hn ho hu
                      go_simp
                      exact hK _ _ (keeps_refl _) hI rfl
                    · intro _ a w1 vs hI ho hn hu KQ hK
                      have e6 : a.tmps[6]? = some (.pointer (some ⟨w.heap.size, 0, none⟩)) := ho 6 rfl
                      clear hn ho hu
                      go_simp
                      exact hK _ _ (keeps_refl _) hI rfl
                    · intro _ a w1 vs hI ho hn hu KQ hK
                      obtain ⟨e220, g220⟩ : a.tmps[220]? = some (vs 7) ∧ vs 7 = .pointer (some ⟨w.heap.size, 0, none⟩) := hn 7 (by decide)
                      rw [g220] at e220
                      clear g220
                      clear hn ho hu
                      have c0 := keeps_cell hI C0.out
                      have c1 := keeps_cell hI C1.out
                      go_simp
                      exact hK _ _ (keeps_refl _) hI rfl
                    · intro _ a w1 vs hI ho hn hu KQ hK
                      obtain ⟨e221, g221⟩ : a.tmps[221]? = some (vs 8) ∧ vs 8 = .int .i64 (K : Int) := hn 8 (by decide)
                      rw [g221] at e221
                      clear g221
                      clear hn ho hu
                      go_simp
                      rw [HW1.out]
                      exact hK _ _ (keeps_refl _) hI rfl
                    · intro _ a w1 vs hI ho hn hu KQ hK
                      obtain ⟨e219, g219⟩ : a.tmps[219]? = some (vs 6) ∧ vs 6 = .slice (some ⟨bp, op, none⟩) xs.length qp := hn 6 (by decide)
                      rw [g219] at e219
                      clear g219
                      obtain ⟨e222, g222⟩ : a.tmps[222]? = some (vs 9) ∧ vs 9 = .int .i64 (K1 : Int) := hn 9 (by decide)
                      rw [g222] at e222
                      clear g222
                      clear hn ho hu
                      go_simp
                      exact hK _ _ (keeps_refl _) hI rfl
                    · intro _ a w1 vs hI ho hn hu KQ hK
                      obtain ⟨e213, g213⟩ : a.tmps[213]? = some (vs 0) ∧ vs 0 = .agg #[.int .i64 (K : Int), .int .i64 (N : Int)] := hn 0 (by decide)
                      rw [g213] at e213
                      clear g213
                      obtain ⟨e218, g218⟩ : a.tmps[218]? = some (vs 5) ∧ vs 5 = .slice (some ⟨bh, oh, none⟩) K1 qh := hn 5 (by decide)
                      rw [g218] at e218
                      clear g218
                      obtain ⟨e223, g223⟩ : a.tmps[223]? = some (vs 10) ∧ vs 10 = .slice (some ⟨bp, op, none⟩) K1 qp := hn 10 (by decide)
                      rw [g223] at e223
                      clear g223
                      clear hn ho hu
                      go_simp
                      refine Calls.mono (HDEF.out _ (HK7.out.trans hI)) ?_
                      rintro e w' ⟨⟨s, rfl⟩, hk⟩
                      go_simp
                      exact hK _ _ hk (Keeps.trans hI hk) ⟨s, rfl⟩
                    · intro _ a w1 vs hI ho hn hu KQ hK
                      obtain ⟨e224, g224⟩ : a.tmps[224]? = some (vs 11) ∧ ∃ s, (vs 11) = .tuple #[.string s, .int .i64 54] := hn 11 (by decide)
                      clear hn ho hu
                      go_simp
                      exact hK _ _ (keeps_refl _) hI g224
                    · intro _ a w1 vs hI ho hn hu KQ hK
                      obtain ⟨e212, g212⟩ : a.tmps[212]? = some (vs 12) ∧ ∃ s, (vs 12) = .tuple #[.string s, .int .i64 54] := hn 12 (by decide)
                      clear hn ho hu
                      obtain ⟨s, hs⟩ := g212
                      rw [hs] at e212
                      go_simp
                      exact hK _ _ (keeps_refl _) hI ⟨s, rfl⟩
                    · intro _ a w1 vs hI ho hn hu KQ hK
                      obtain ⟨e212, g212⟩ : a.tmps[212]? = some (vs 12) ∧ ∃ s, (vs 12) = .tuple #[.string s, .int .i64 54] := hn 12 (by decide)
                      clear hn ho hu
                      obtain ⟨s, hs⟩ := g212
                      rw [hs] at e212
                      go_simp
                      exact hK _ _ (keeps_refl _) hI rfl
                    · intro _ a w1 vs hI ho hn hu KQ hK
                      obtain ⟨e226, g226⟩ : a.tmps[226]? = some (vs 14) ∧ vs 14 = .int .i64 54 := hn 14 (by decide)
                      rw [g226] at e226
                      clear g226
                      clear hn ho hu
                      go_simp
                      exact hK _ _ (keeps_refl _) hI rfl
                  intro vs wE hI hG
                  have HKE := Lib.hid hI
                  have h14 : vs 15 = .int .i64 54 := hG 15 (by decide)
                  clear hG hI
                  simp only [setAll, Nat.zero_add, Nat.reduceAdd, List.setIfInBounds_toArray, List.set_cons_zero, List.set_cons_succ, h14]
                  clear h14
                  generalize vs 0 = y0 at *
                  generalize vs 1 = y1 at *
                  generalize vs 2 = y2 at *
                  generalize vs 3 = y3 at *
                  generalize vs 4 = y4 at *
                  generalize vs 5 = y5 at *
                  generalize vs 6 = y6 at *
                  generalize vs 7 = y7 at *
                  generalize vs 8 = y8 at *
                  generalize vs 9 = y9 at *
                  generalize vs 10 = y10 at *
                  generalize vs 11 = y11 at *
                  generalize vs 12 = y12 at *
                  generalize vs 13 = y13 at *
                  generalize vs 14 = y14 at *
                  have HKE2 := Lib.hid (HK7.out.trans HKE.out)
                  obtain ⟨c0, c1⟩ := HC0.out _ (HKW.out.trans HKE2.out)
                  have hxle : xs.length ≤ 12 := by have := HXL.out; omega
                  by_cases hcK : c = K
                  · have hxk : xs.length = K := HXL.out.trans hcK
                    have hxk64 : ((xs.length : Int) == (K : Int)) = true := by rw [beq_iff_eq]; omega
                    have hxk65 : (xs.length == K) = true := by rw [beq_iff_eq]; omega
                    clear hxk
                    go_wp2_with fail
                    go_ret
                    exact ⟨rfl, (HK0.out.trans HKW.out).trans HKE2.out⟩
                  · have hxk : ¬ xs.length = K := fun h => hcK (HXL.out.symm.trans h)
                    have hxk64 : ((xs.length : Int) == (K : Int)) = false := by rw [beq_eq_false_iff_ne]; omega
                    have hxk65 : (xs.length == K) = false := by rw [beq_eq_false_iff_ne]; omega
                    have HCK := Lib.hid hcK
                    have hxpos : 0 < xs.length := by have h1 := HXL.out; have h2 := HCE.out; omega
                    obtain ⟨κ2, hκ2, hke2⟩ := rem_some bad xs.length (by omega) (by omega)
                    have hκ64 : (κ2 : Int) < (xs.length : Int) := by omega
                    clear hxk hcK
                    go_upto_region 45 with (fail)
                    try rw [hke2]
                    clear hke2
                    have hspl : κ2 < (someP M xs).length := by rw [someP_len]; exact hκ2
                    obtain ⟨b9, o9, e9, d9⟩ := text_cellH (SeqAt.keeps HPSQ.out HKE2.out) hspl
                    injection e9 with e9
                    injection e9 with e91 e92
                    subst e91 e92
                    have HSA := Lib.hid (someP_at (M := M) hspl)
                    have hr := HBD.out xs[κ2] (List.getElem_mem hκ2)
                    have HRL : Hid ((M.getD xs[κ2] []).length = sz) := HMR.out _ hr
                    have HBK := Lib.hid (HBAD.out κ2 hκ2)
                    rw [HSA.out] at d9
                    clear hr
                    generalize M.getD xs[κ2] [] = r at *
                    have hrl := HRL.out
                    have hsz1 := HSL.out.2
                    have HSS := Lib.hid (strB_size r)
                    have HSDT : Hid ((strB r).data.toList = r) := rfl
                    generalize hS : strB r = S at *
                    have HSE := Lib.hid hS
                    clear hS
                    have hssz : S.size = sz := by rw [HSS.out, hrl]
                    go_upto_region 46 with (refine wp_bytes rfl 9 39 (.tmp 244) rfl S rfl Tryd.underlying9 Tryd.underlying39 Tryd.underlying5 (by omega) ?_; intro cb w10 hcb hrow hk10; rw [hssz, HSDT.out] at hrow; have HROW10 := Lib.hid hrow; have HK10 := Lib.hid hk10; clear hrow hk10)
                    obtain ⟨α, hα, hae⟩ := rem_some ((IntKind.u64.wrap bad).tdiv (xs.length : Int)) sz hsz1 (by omega)
                    have hα64 : (α : Int) < (sz : Int) := by omega
                    go_upto_region 47 with (fail)
                    try rw [hae]
                    clear hae
                    have hαr : α < r.length := by rw [hrl]; exact hα
                    obtain ⟨rc1, rc2⟩ := row_cellB HROW10.out hαr
                    rw [← cell_of] at rc1
                    rw [← froz_of] at rc2
                    have HRA := Lib.hid (seq_set (SeqIn.at_ HROW10.out) (k := α) hαr (u := .int .u8 (x.toNat : Int)) (x := x) rfl)
                    rw [Nat.zero_add] at HRA
                    have hcv := conv_rowT HRA.out
                    have HK11 : Hid (Keeps wE (w10.setCell ⟨wE.heap.size, α, none⟩ (.int .u8 (x.toNat : Int)))) := (Chg.setCell (Kept.any (T := fun b => wE.heap.size ≤ b) HK10.out) (p := ⟨wE.heap.size, α, none⟩) (fun _ => Nat.le_refl _) _).keeps fun b h1 h2 => by omega
                    have HKI := Lib.hid (HKE2.out.trans HK11.out)
                    obtain ⟨z1, z2, z3⟩ := seqIn_froz (hP.out.seq (by rw [someP_len]; omega)) hspl
                    obtain ⟨_, z4, _⟩ := seqIn_froz (hH.out.seq (by rw [numsP_len]; omega)) (show 0 < (numsP xs).length by rw [numsP_len]; omega)
                    have hbn : bh ≠ bp := fun e => by rw [e, z2] at z4; exact absurd (Option.some.inj z4) (by decide)
                    obtain ⟨up, up1, _⟩ := seq_at HPSQ.out hspl
                    have fz := keeps_froz HKI.out up1 z3
                    have up2 := keeps_cell HKI.out up1
                    have HPX := Lib.hid (seq_set (SeqAt.keeps HPSQ.out HKI.out) (k := κ2) hspl (u := .string (strB (r.set α x))) (x := strB (r.set α x)) rfl)
                    have HHX := Lib.hid (seq_other (SeqAt.keeps HHS.out HKI.out) hbn (.string (strB (r.set α x))) (i := op + κ2))
                    have HKX : Hid (Keeps w4 ((w10.setCell ⟨wE.heap.size, α, none⟩ (.int .u8 (x.toNat : Int))).setCell ⟨bp, op + κ2, none⟩ (.string (strB (r.set α x))))) := (Chg.setCell (Kept.any (T := fun b => w4.heap.size ≤ b) (hK.out.trans HKI.out)) (p := ⟨bp, op + κ2, none⟩) (fun _ => z1) _).keeps fun b h1 h2 => by omega
                    have HRS : Hid (r[α] = x → r.set α x = r) := fun e => by subst e; exact List.set_getElem_self hαr
                    have HRN : Hid (r[α] ≠ x → strB (r.set α x) ≠ S) := fun e h => by
                      rw [← HSE.out] at h
                      have h := strB_inj h
                      have h2 : (r.set α x)[α]'(by rw [List.length_set]; exact hαr) = r[α] := by simp only [h]
                      rw [List.getElem_set_self] at h2
                      exact e h2.symm
                    have HPZ : Hid (∀ p ∈ (someP M xs).set κ2 (strB (r.set α x)), p.size ≤ 1000000) := fun p hp => by
                      rcases List.mem_or_eq_of_mem_set hp with h | h
                      · exact HPS.out p h
                      · rw [h, strB_size, List.length_set, hrl]; omega
                    clear z1 z2 z3 z4 up1 HRA HK10 HROW10 HK11 HKI d9 hbn
                    generalize hT : strB (r.set α x) = T at *
                    have HTT := Lib.hid hT
                    clear hT
                    go_upto_region 50 with (fail)
                    generalize (w10.setCell ⟨wE.heap.size, α, none⟩ (.int .u8 (x.toNat : Int))).setCell ⟨bp, op + κ2, none⟩ (.string T) = w12 at *
                    obtain ⟨c0, c1⟩ := HC0.out _ (HK4.out.trans HKX.out)
                    have HKZ := Lib.hid ((HK0.out.trans HK4.out).trans HKX.out)
                    have HDZ := Lib.hid (decode_any K N _ _ (numsP xs) ((someP M xs).set κ2 T) w12 HPZ.out HIN.out HHX.out HPX.out ⟨_, _, _, rfl, hch⟩ ⟨_, _, _, rfl, hcp⟩)
                    by_cases hs : r[α] = x
                    · have HTS : Hid (T = S) := by show _ = _; rw [← HTT.out, HRS.out hs, HSE.out]
                      have HSP : Hid ((someP M xs).set κ2 T = someP M xs) := by
                        show _ = _
                        rw [HTS.out, ← HSA.out]; exact List.set_getElem_self hspl
                      rw [HSP.out, F2.out] at HDZ
                      have hq : ((r[α].toNat : Int) == (x.toNat : Int)) = true := by rw [beq_iff_eq, hs]
                      rw [hq]
                      clear hq hs up2 fz rc1 rc2 hcv HRS HRN HSA HBK HTT
                      go_wp2_with fail
                      refine Calls.mono HDZ.out ?_
                      rintro e w13 ⟨rfl, hk⟩
                      have HKF := Lib.hid (HKZ.out.trans hk)
                      clear hk
                      go_wp2_with fail
                      go_ret
                      exact ⟨rfl, HKF.out⟩
                    · have HTN : Hid (T ≠ S) := HRN.out hs
                      have HE4 := Lib.hid (HBK.out T HCK.out HTN.out)
                      rw [HE4.out] at HDZ
                      have hq : ((r[α].toNat : Int) == (x.toNat : Int)) = false := by
                        rw [beq_eq_false_iff_ne]
                        intro h
                        exact hs (UInt8.toNat_inj.1 (by omega))
                      rw [hq]
                      clear hq hs up2 fz rc1 rc2 hcv HRS HRN HSA HBK HTT
                      go_wp2_with fail
                      refine Calls.mono HDZ.out ?_
                      rintro e w13 ⟨rfl, hk⟩
                      have HKF := Lib.hid (HKZ.out.trans hk)
                      clear hk
                      go_wp2_with fail
                      go_ret
                      exact ⟨rfl, HKF.out⟩
              -- L3>
theorem cany_law (k n : Int) (a : ByteArray) (vr : Value) (row : List Int) (more bad x : Int) (w : World) (ha : a.size ≤ maxLen) (hr : SeqAt IsInt w.heap vr row) (hx : 0 ≤ x ∧ x < 256) :
    Calls Tryd.prog 7 #[.agg #[.int .i64 k, .int .i64 n], .string a, vr, .int .i64 more, .int .i64 bad, .int .u8 x] w fun e w' => e = .returned (.bool true) ∧ Keeps w w' := by
  have e : x = ((UInt8.ofNat x.toNat).toNat : Int) := by rw [UInt8.toNat_ofNat']; omega
  rw [e]
  exact cany_any k n a vr row more bad (UInt8.ofNat x.toNat) w ha hr
end Go.Proofs.YtllfhaocdknejaaDoor
