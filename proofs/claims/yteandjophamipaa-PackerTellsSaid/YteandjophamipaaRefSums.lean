/- The walks of the reference's Sums and Sum. -/
import Derived.Test.YteandjophamipaaRefChg
import Derived.Test.YteandjophamipaaRefRoots
namespace Go.Proofs.Yteandjophamipaa
open Go.RowKit
theorem seqIn_lit {α : Type} {R : Value → α → Prop} (w : World) (cs : Array Value) (e : TypeId) (l : List α) {N : Nat} (hN : N ≤ w.heap.size) (hl : l.length = cs.size ∧ cs.size ≤ 1000000) (hr : ∀ i (hi : i < l.length), ∃ u, cs[i]? = some u ∧ R u l[i]) : SeqIn (N ≤ ·) e R (w.alloc (.cells cs e)).heap (.slice (some ⟨w.heap.size, 0, none⟩) cs.size cs.size) l := by
  have hg : (w.alloc (.cells cs e)).heap[w.heap.size]? = some (.cells cs e (0, 0)) := heap_alloc_new w _
  refine ⟨_, cs.size, by rw [hl.1], by have := hl.2; omega, fun i hi => ?_⟩
  obtain ⟨u, h1, h2⟩ := hr i hi
  refine ⟨w.heap.size, 0, u, rfl, ⟨hN, typH_of hg⟩, ?_, ?_, h2⟩
  · unfold frozH; simp only [hg]; simp
  · rw [Nat.zero_add]; unfold cellH; simp only [hg]; exact h1
theorem run_mid (b o n q i : Nat) (hi : i + 64 ≤ n) (hq : n ≤ q) (w : World) : (Instr.slice 56 (.slice (some ⟨b, o, none⟩) n q) (some (.int .i64 (i : Int))) (some (.int .i64 ((i : Int) + 64))) none).run Try.prog w = .ok (.slice (some ⟨b, o + i, none⟩) 64 (q - i)) w := by
  have e1 : (i : Int).toNat = i := by omega
  have e2 : ((i : Int) + 64).toNat = i + 64 := by omega
  rw [run_slice_lh (P := Try.prog) w 56 (some ⟨b, o, none⟩) n q ht_bytes .i64 .i64 (i : Int) ((i : Int) + 64) (by omega) (by omega) (by omega), sz_byte, e1, e2]
  show Result.ok (sliced (some ⟨b, o, none⟩) i (i + 64) q 1) w = _
  unfold sliced
  rw [show i + 64 - i = 64 from by omega, if_neg (by omega)]
  have ea : Addr.add ⟨b, o, none⟩ i = ⟨b, o + i, none⟩ := by
    unfold Addr.add
    split
    · rename_i h; rw [h]; rfl
    · rfl
  rw [Nat.mul_one, Option.map_some, ea]
theorem four_row (x : Nat) (hx : x < 4294967296) : ∀ i (hi : i < (SH.four x).length), ∃ u, (#[.int .u8 ((x : Int) / 16777216), .int .u8 ((x : Int) / 65536 % 256), .int .u8 ((x : Int) / 256 % 256), .int .u8 ((x : Int) % 256)] : Array Value)[i]? = some u ∧ IsByte u (SH.four x)[i] := by
  intro i hi
  have h4 : (SH.four x).length = 4 := rfl
  have e0 : ((UInt8.ofNat (x / 16777216)).toNat : Int) = (x : Int) / 16777216 := by rw [UInt8.toNat_ofNat']; omega
  have e1 : ((UInt8.ofNat (x / 65536)).toNat : Int) = (x : Int) / 65536 % 256 := by rw [UInt8.toNat_ofNat']; omega
  have e2 : ((UInt8.ofNat (x / 256)).toNat : Int) = (x : Int) / 256 % 256 := by rw [UInt8.toNat_ofNat']; omega
  have e3 : ((UInt8.ofNat x).toNat : Int) = (x : Int) % 256 := by rw [UInt8.toNat_ofNat']; omega
  match i, hi with
  | 0, _ => exact ⟨_, rfl, by show _ = Value.int .u8 _; rw [← e0]; rfl⟩
  | 1, _ => exact ⟨_, rfl, by show _ = Value.int .u8 _; rw [← e1]; rfl⟩
  | 2, _ => exact ⟨_, rfl, by show _ = Value.int .u8 _; rw [← e2]; rfl⟩
  | 3, _ => exact ⟨_, rfl, by show _ = Value.int .u8 _; rw [← e3]; rfl⟩
  | n + 4, h => omega
def sumT (s : ByteArray) : ByteArray := strB (SH.sumB s.data.toList)
theorem elTextN : ElemTy Try.prog 22 9 (.string ByteArray.empty) 16 := elText
def sum16 (_F : List Nat) (j x b7 o7 q7 nd : Nat) (pd : Option Addr) (qd N : Nat) : Nat → Value → World → Prop
  | 27, v, w => SeqIn (N ≤ ·) 5 IsByte w.heap v (SH.four x)
  | 28, _, _ => True
  | 29, _, _ => True
  | i, v, _ => v = ([.slice pd nd qd, .slice (some ⟨b7, o7, none⟩) 8 q7, .int .i64 (j : Int), .pointer (some ⟨b7, o7 + j, none⟩), .int .u32 (x : Int), .int .u32 ((x : Int) / 16777216), .int .u8 ((x : Int) / 16777216), .slice (some ⟨b7, o7, none⟩) 8 q7, .int .i64 (j : Int), .pointer (some ⟨b7, o7 + j, none⟩), .int .u32 (x : Int), .int .u32 ((x : Int) / 65536), .int .u32 ((x : Int) / 65536 % 256), .int .u8 ((x : Int) / 65536 % 256), .slice (some ⟨b7, o7, none⟩) 8 q7, .int .i64 (j : Int), .pointer (some ⟨b7, o7 + j, none⟩), .int .u32 (x : Int), .int .u32 ((x : Int) / 256), .int .u32 ((x : Int) / 256 % 256), .int .u8 ((x : Int) / 256 % 256), .slice (some ⟨b7, o7, none⟩) 8 q7, .int .i64 (j : Int), .pointer (some ⟨b7, o7 + j, none⟩), .int .u32 (x : Int), .int .u32 ((x : Int) % 256), .int .u8 ((x : Int) % 256), undef, undef, undef] : List Value).getD i undef
theorem sum16_chg {F : List Nat} {j x b7 o7 q7 nd : Nat} {pd : Option Addr} {qd N : Nat} (i : Nat) (v : Value) (w w' : World) (c : Chg (fun b => b < N) w w') (h : sum16 F j x b7 o7 q7 nd pd qd N i v w) : sum16 F j x b7 o7 q7 nd pd qd N i v w' := by
  match i, h with
  | 0, h => exact h
  | 1, h => exact h
  | 2, h => exact h
  | 3, h => exact h
  | 4, h => exact h
  | 5, h => exact h
  | 6, h => exact h
  | 7, h => exact h
  | 8, h => exact h
  | 9, h => exact h
  | 10, h => exact h
  | 11, h => exact h
  | 12, h => exact h
  | 13, h => exact h
  | 14, h => exact h
  | 15, h => exact h
  | 16, h => exact h
  | 17, h => exact h
  | 18, h => exact h
  | 19, h => exact h
  | 20, h => exact h
  | 21, h => exact h
  | 22, h => exact h
  | 23, h => exact h
  | 24, h => exact h
  | 25, h => exact h
  | 26, h => exact h
  | 27, h => exact SeqIn.chg h c (fun b _ hs _ x => Nat.lt_irrefl _ (Nat.lt_of_lt_of_le x hs)) fun _ _ _ r => r
  | 28, h => exact h
  | 29, h => exact h
  | _ + 30, h => exact h
def sum16_I (wd wr : World) (F : List Nat) (j x : Nat) (vo : Value) : Nat → (Nat → Value) → World → Prop
  | 0, _, w' => OwnG wd.heap.size 5 IsByte w'.heap vo (SH.digest (F.take j)) ∧ Keeps wr w'
  | 1, vs, w' => OwnG wd.heap.size 5 IsByte w'.heap (vs 28) ((SH.digest (F.take j)) ++ (SH.four x)) ∧ Keeps wd w'
  | _, vs, w' => OwnG wd.heap.size 5 IsByte w'.heap (vs 29) ((SH.digest (F.take j)) ++ (SH.four x)) ∧ Keeps wd w'
set_option maxRecDepth 100000 in
set_option maxHeartbeats 4000000 in
theorem refsums_any (v : Value) (l : List ByteArray) (w : World) (h : TextsAt w.heap v l) (hl : l.length ≤ 100000) (hs : ∀ s ∈ l, s.size ≤ 1000000) :
    Calls Try.prog 67 #[v] w fun e w' => ∃ v', e = .returned v' ∧ OwnG w.heap.size 9 IsText w'.heap v' (l.map sumT) ∧ Keeps w w' := by
  obtain ⟨p, q, rfl⟩ := seq_shape h
  have H := Lib.hid h
  have HS : Hid (∀ s ∈ l, s.size ≤ 1000000) := hs
  clear h hs
  go_enter Try.func67, Try.ntmps67
  go_wp2_with fail
  refine Calls.mono (roots_any w) ?_
  rintro e w1 ⟨v1, v2, rfl, h1, h2, hk⟩
  have H1 := Lib.hid (SeqIn.at_ h1)
  have H2 := Lib.hid (SeqIn.at_ h2)
  have HT := Lib.hid (SeqAt.keeps H.out hk)
  have HK1 := Lib.hid hk
  obtain ⟨b1, o1, q1, _, rfl, -⟩ := seq_cell H1.out (i := 0) (by decide)
  obtain ⟨b2, o2, q2, _, rfl, -⟩ := seq_cell H2.out (i := 0) (by decide)
  clear h1 h2 hk
  go_wp2_with fail
  go_loopw [5, 6] (fun out i wr => ∃ k : Nat, k ≤ l.length ∧ i = .int .i64 k ∧ Hid (OwnG w1.heap.size 9 IsText wr.heap out ((l.take k).map sumT)) ∧ Hid (Keeps w1 wr)) (fun _ i _ => l.length - (intOf i).toNat)
  case atStart => exact ⟨0, by omega, rfl, OwnG.nil _ _ _ _, keeps_refl w1⟩
  case round =>
    obtain ⟨k, hk, rfl, hO, hK⟩ := hrel
    by_cases hlt : k < l.length
    · have hlt64 : (k : Int) < (l.length : Int) := by omega
      have hk0 : (0 : Int) ≤ (k : Int) := by omega
      obtain ⟨b, off, cp, u, e5, d1, r1⟩ := seq_cell (SeqAt.keeps HT.out hK.out) hlt
      injection e5 with e6 e7 e8
      subst e6 e8
      unfold IsText at r1
      subst r1
      have hsz : l[k].size ≤ 1000000 := HS.out _ (List.getElem_mem hlt)
      have HTK : Hid ((l.take (k + 1)).map sumT = (l.take k).map sumT ++ [sumT l[k]]) := by
        show _ = _
        rw [List.take_succ_eq_append_getElem hlt, List.map_append]; rfl
      generalize l[k] = s at *
      clear e7
      obtain ⟨po, qo, rfl⟩ := own_shape hO.out
      have hOL : ((l.take k).map sumT).length = k := by rw [List.length_map, List.length_take]; omega
      rw [hOL] at hO ⊢
      have HOL := Lib.hid hOL
      clear hOL
      go_wp2_with fail
      refine Calls.mono (filled_any s _ hsz) ?_
      rintro e wf ⟨v8, rfl, h8, hk8⟩
      have HO := Lib.hid (hO.out.keeps hk8)
      have HK := Lib.hid (hK.out.trans hk8)
      have H8 := Lib.hid (SeqIn.at_ h8.seq)
      have HPL : Hid ((SH.padB s.data.toList).length = s.size + 9 + SH.noughts s.size) := by show _ = _; rw [SH.padB_length, data_size]
      have HPM := Lib.hid (SH.padB_mod s.data.toList)
      have HNL := Lib.hid (SH.noughts_lt s.size)
      have hcap := h8
      obtain ⟨b8, q8, e8, hq8⟩ : ∃ b8 q8, v8 = .slice (some ⟨b8, 0, none⟩) (SH.padB s.data.toList).length q8 ∧ (SH.padB s.data.toList).length ≤ q8 := by
        rcases hcap with ⟨_, e0⟩ | ⟨g, cap, e0, _, _, hc, _⟩
        · exfalso; have h9 := HPL.out; rw [e0] at h9; simp at h9; omega
        · exact ⟨g, cap, e0, hc⟩
      subst e8
      clear h8 hk8 hcap hO hK
      have HF : Hid (SH.sumB s.data.toList = SH.digest (SH.blk ((SH.padB s.data.toList).length / 64) SH.HL (SH.padB s.data.toList))) := rfl
      have HSM : Hid (sumT s = strB (SH.sumB s.data.toList)) := rfl
      have hpl : (SH.padB s.data.toList).length ≤ 1000100 := by have := HPL.out; have := HNL.out; omega
      generalize SH.padB s.data.toList = P at *
      have H1f := Lib.hid (SeqAt.keeps H1.out HK.out)
      have H2f := Lib.hid (SeqAt.keeps H2.out HK.out)
      go_wp2_with fail
      go_loopw [7, 9] (fun n i wx => ∃ (j : Nat) (b7 o7 q7 : Nat), 64 * j ≤ P.length ∧ i = .int .i64 (64 * j : Nat) ∧ n = .slice (some ⟨b7, o7, none⟩) 8 q7 ∧ Hid (SeqAt IsU32 wx.heap (.slice (some ⟨b7, o7, none⟩) 8 q7) (SH.blk j SH.HL P)) ∧ Hid (Keeps wf wx)) (fun _ i _ => P.length - (intOf i).toNat)
      case atStart => exact ⟨0, b1, o1, q1, by omega, rfl, rfl, H1f, keeps_refl wf⟩
      case round =>
        obtain ⟨j, b7, o7, q7, hj, rfl, rfl, hN, hK⟩ := hrel
        by_cases hlt2 : 64 * j < P.length
        · have hj64 : 64 * j + 64 ≤ P.length := by have := HPM.out; omega
          have g1 : ((64 * j : Nat) : Int) < (P.length : Int) := by omega
          have r1 := run_mid b8 0 P.length q8 (64 * j) hj64 hq8
          rw [Nat.zero_add] at r1
          have HR : Hid (RowAt wr.heap (.slice (some ⟨b8, 64 * j, none⟩) 64 (q8 - 64 * j)) ((P.drop (64 * j)).take 64)) := by
            have h0 := SeqAt.keeps H8.out hK.out
            have h9 := SeqAt.front (SeqAt.back h0 ⟨b8, 64 * j, none⟩ q8 (k := 64 * j) (fun _ => by rw [Nat.zero_add])) (k := 64) (by rw [List.length_drop]; omega) (q8 - 64 * j)
            exact h9
          have HRL : Hid (((P.drop (64 * j)).take 64).length = 64) := by show _ = _; rw [List.length_take, List.length_drop]; omega
          have HB : Hid (SH.blk (j + 1) SH.HL P = SH.chgS (SH.blk j SH.HL P) ((P.drop (64 * j)).take 64)) := rfl
          have HOKJ := Lib.hid (SH.ok_blk SH.ok_HL j P)
          go_wp2_with fail
          refine Calls.mono (refchange_any _ _ _ (SH.blk j SH.HL P) _ _ hN.out HOKJ.out (SeqAt.keeps H2f.out hK.out) HR.out HRL.out) ?_
          rintro e wc ⟨vc, rfl, hc, hkc⟩
          have hc8 : (SH.blk (j + 1) SH.HL P).length = 8 := (SH.ok_blk SH.ok_HL (j + 1) P).1
          rw [← HB.out] at hc
          have HC := Lib.hid (SeqIn.at_ hc.seq)
          obtain ⟨bc, oc, qc, _, rfl, -⟩ := seq_cell HC.out (i := 0) (by rw [hc8]; omega)
          rw [hc8] at HC ⊢
          have HKC := Lib.hid (hK.out.trans hkc)
          clear hc hkc hN hK hc8
          go_wp2_with fail
          refine ⟨?_, by simp [intOf]; omega⟩
          first | exact ⟨j + 1, bc, oc, qc, by omega, by go_num, rfl, HC, HKC⟩ | ((repeat apply Exists.intro); exact ⟨⟨j + 1, bc, oc, qc, by omega, by go_num, rfl, HC, HKC⟩, rfl⟩)
        · have HJ : Hid (P.length / 64 = j) := by show _ = _; have := HPM.out; omega
          have HFF : Hid (SH.sumB s.data.toList = SH.digest (SH.blk j SH.HL P)) := by show _ = _; rw [HF.out, HJ.out]
          have HOKF := Lib.hid (SH.ok_blk SH.ok_HL j P)
          have HKD := Lib.hid (HK.out.trans hK.out)
          have HOD := Lib.hid (HO.out.keeps hK.out)
          have g1 : ((P.length : Nat) : Int) ≤ ((64 * j : Nat) : Int) := by omega
          have g2 : decide (((64 * j : Nat) : Int) < (P.length : Int)) = false := decide_eq_false (by omega)
          have HND := hN
          clear hN hK HF HJ HPM HPL HNL H8 H1f
          generalize SH.blk j SH.HL P = F at *
          obtain ⟨wd, hwd⟩ : ∃ wd, wd = wr := ⟨_, rfl⟩
          rw [← hwd] at HND HKD HOD ⊢
          clear hwd
          go_wp2_with fail
          clear g1 g2
          go_loopw [10, 11] (fun d i wx => ∃ j : Nat, j ≤ 8 ∧ i = .int .i64 j ∧ Hid (OwnG wd.heap.size 5 IsByte wx.heap d (SH.digest (F.take j))) ∧ Hid (Keeps wd wx)) (fun _ i _ => 8 - (intOf i).toNat)
          case atStart => exact ⟨0, by omega, rfl, OwnG.nil _ _ _ _, keeps_refl wd⟩
          case round =>
            obtain ⟨j, hj, rfl, hO, hK⟩ := hrel
            obtain ⟨pd, qd, rfl⟩ := own_shape hO.out
            have HDL : Hid ((SH.digest (F.take j)).length = 4 * j) := dig_len F HOKF.out.1 hj
            have HW : Hid (wd.heap.size ≤ wr.heap.size) := hK.out.size
            by_cases hlt3 : j < 8
            · have i1 : (j : Int) < 8 := by omega
              have cj : wr.cell? ⟨b7, o7 + j, none⟩ = some (.int .u32 (F.getD j 0 : Int)) := row_u32 (SeqAt.keeps HND.out hK.out) (by rw [HOKF.out.1]; exact hlt3)
              have lx : F.getD j 0 < 4294967296 := HOKF.out.2 j
              have HDS : Hid (SH.digest (F.take (j + 1)) = SH.digest (F.take j) ++ SH.four (F.getD j 0)) := dig_succ F HOKF.out.1 hlt3
              generalize F.getD j 0 = x at *
              have HFE := Lib.hid (four_row x lx)
              have HFL : Hid ((SH.four x).length = 4 ∧ 4 ≤ 1000000) := ⟨rfl, by omega⟩
              have HSZ : Hid (∀ w1 : World, Keeps wr w1 → wr.heap.size ≤ w1.heap.size) := fun _ h => h.size
              have HLT : Hid (∀ b, (Value.slice pd (SH.digest (F.take j)).length qd).ownBlock = some b → b < wr.heap.size) := fun b hb => (hO.out.lt hb).2.1
              have HKR := hK
              obtain ⟨N, hN⟩ : ∃ N, N = wr.heap.size := ⟨_, rfl⟩
              rw [← hN] at HLT HSZ
              have HO := hO
              have HKE := hK
              clear hN hO hK
              generalize (SH.digest (F.take j)).length = nd at *
              have n1 : (0 : Int) ≤ (x : Int) := by omega
              have W51 : Hid (IntKind.u32.wrap ((x : Int) / 16777216) = (x : Int) / 16777216) := IntWalk.u32_in _ (by omega)
              have W52 : Hid (IntKind.u8.wrap ((x : Int) / 16777216) = (x : Int) / 16777216) := IntWalk.u8_in _ (by omega)
              have W57 : Hid (IntKind.u32.wrap ((x : Int) / 65536) = (x : Int) / 65536) := IntWalk.u32_in _ (by omega)
              have W58 : Hid (IntKind.u32.wrap ((x : Int) / 65536 % 256) = (x : Int) / 65536 % 256) := IntWalk.u32_in _ (by omega)
              have W59 : Hid (IntKind.u8.wrap ((x : Int) / 65536 % 256) = (x : Int) / 65536 % 256) := IntWalk.u8_in _ (by omega)
              have W64 : Hid (IntKind.u32.wrap ((x : Int) / 256) = (x : Int) / 256) := IntWalk.u32_in _ (by omega)
              have W65 : Hid (IntKind.u32.wrap ((x : Int) / 256 % 256) = (x : Int) / 256 % 256) := IntWalk.u32_in _ (by omega)
              have W66 : Hid (IntKind.u8.wrap ((x : Int) / 256 % 256) = (x : Int) / 256 % 256) := IntWalk.u8_in _ (by omega)
              have W71 : Hid (IntKind.u32.wrap ((x : Int) % 256) = (x : Int) % 256) := IntWalk.u32_in _ (by omega)
              have W72 : Hid (IntKind.u8.wrap ((x : Int) % 256) = (x : Int) % 256) := IntWalk.u8_in _ (by omega)
              go_wp2_with fail
              refine wp_region_stage [46, 47, 48, 49, 50, 51, 52, 53, 54, 55, 56, 57, 58, 59, 60, 61, 62, 63, 64, 65, 66, 67, 68, 69, 70, 71, 72, 73, 74, 10] [[], [], [], [1, 2], [3], [4], [5], [], [], [7, 8], [9], [10], [11], [12], [], [], [14, 15], [16], [17], [18], [19], [], [], [21, 22], [23], [24], [25], [6, 13, 20, 26], [0, 27], [28]] [28, 29] [0, 0, 0, 0, 0, 0, 0, 0, 0, 0, 0, 0, 0, 0, 0, 0, 0, 0, 0, 0, 0, 0, 0, 0, 0, 0, 0, 0, 0, 1] [] (sum16 F j x b7 o7 q7 nd pd qd N) (fun w w' => Chg (fun b => b < N) w w') (sum16_I wd wr F j x (.slice pd nd qd)) (by kernel_rfl) (by kernel_rfl) (by kernel_rfl) (by kernel_rfl) (by kernel_rfl) (by kernel_rfl) (by kernel_rfl) ?_ ?_ ?_ ?_ ?_ ?_ ?_
              · exact fun i v w w' c h => sum16_chg i v w w' c h
              · exact fun w => Chg.refl _ w
              · exact fun i s vs w h => by cases h
              · refine ⟨?_, ?_, ?_, ?_, ?_, ?_, ?_, ?_, ?_, ?_, ?_, ?_, ?_, ?_, ?_, ?_, ?_, ?_, ?_, ?_, ?_, ?_, ?_, ?_, ?_, ?_, ?_, ?_, ?_, ?_, trivial⟩
                · exact fun g b h => by (cases h)
                · exact fun g b h => by (cases h)
                · exact fun g b h => by (cases h)
                · exact fun g b h => by (cases h)
                · exact fun g b h => by (cases h)
                · exact fun g b h => by (cases h)
                · exact fun g b h => by (cases h)
                · exact fun g b h => by (cases h)
                · exact fun g b h => by (cases h)
                · exact fun g b h => by (cases h)
                · exact fun g b h => by (cases h)
                · exact fun g b h => by (cases h)
                · exact fun g b h => by (cases h)
                · exact fun g b h => by (cases h)
                · exact fun g b h => by (cases h)
                · exact fun g b h => by (cases h)
                · exact fun g b h => by (cases h)
                · exact fun g b h => by (cases h)
                · exact fun g b h => by (cases h)
                · exact fun g b h => by (cases h)
                · exact fun g b h => by (cases h)
                · exact fun g b h => by (cases h)
                · exact fun g b h => by (cases h)
                · exact fun g b h => by (cases h)
                · exact fun g b h => by (cases h)
                · exact fun g b h => by (cases h)
                · exact fun g b h => by (cases h)
                · exact fun g b h => by (cases h)
                · exact fun g b h => by (cases h)
                · exact fun g b h => by (cases h)
              · exact fun _ _ => ⟨HO.out, keeps_refl wr⟩
              · refine ⟨?_, ?_, ?_, ?_, ?_, ?_, ?_, ?_, ?_, ?_, ?_, ?_, ?_, ?_, ?_, ?_, ?_, ?_, ?_, ?_, ?_, ?_, ?_, ?_, ?_, ?_, ?_, ?_, ?_, ?_, trivial⟩
                · intro _ a w1 vs hI ho hn hu K hK
                  have e10 : a.tmps[10]? = some (.slice pd nd qd) := hu 29 (by decide) (by decide)
                  clear hn ho hu
                  have hI : OwnG wd.heap.size 5 IsByte w1.heap (.slice pd nd qd) (SH.digest (F.take j)) ∧ Keeps wr w1 := hI
                  go_simp
                  exact hK _ _ (Chg.refl _ _) hI rfl
                · intro _ a w1 vs hI ho hn hu K hK
                  have e7 : a.tmps[7]? = some (.slice (some ⟨b7, o7, none⟩) 8 q7) := ho 7 rfl
                  clear hn ho hu
                  have hI : OwnG wd.heap.size 5 IsByte w1.heap (.slice pd nd qd) (SH.digest (F.take j)) ∧ Keeps wr w1 := hI
                  go_simp
                  exact hK _ _ (Chg.refl _ _) hI rfl
                · intro _ a w1 vs hI ho hn hu K hK
                  have e11 : a.tmps[11]? = some (.int .i64 (j : Int)) := ho 11 rfl
                  clear hn ho hu
                  have hI : OwnG wd.heap.size 5 IsByte w1.heap (.slice pd nd qd) (SH.digest (F.take j)) ∧ Keeps wr w1 := hI
                  go_simp
                  exact hK _ _ (Chg.refl _ _) hI rfl
                · intro _ a w1 vs hI ho hn hu K hK
                  obtain ⟨e47, g47⟩ : a.tmps[47]? = some (vs 1) ∧ vs 1 = .slice (some ⟨b7, o7, none⟩) 8 q7 := hn 1 (by decide)
                  rw [g47] at e47
                  clear g47
                  obtain ⟨e48, g48⟩ : a.tmps[48]? = some (vs 2) ∧ vs 2 = .int .i64 (j : Int) := hn 2 (by decide)
                  rw [g48] at e48
                  clear g48
                  clear hn ho hu
                  have hI : OwnG wd.heap.size 5 IsByte w1.heap (.slice pd nd qd) (SH.digest (F.take j)) ∧ Keeps wr w1 := hI
                  go_simp
                  exact hK _ _ (Chg.refl _ _) hI rfl
                · intro _ a w1 vs hI ho hn hu K hK
                  obtain ⟨e49, g49⟩ : a.tmps[49]? = some (vs 3) ∧ vs 3 = .pointer (some ⟨b7, o7 + j, none⟩) := hn 3 (by decide)
                  rw [g49] at e49
                  clear g49
                  clear hn ho hu
                  have hI : OwnG wd.heap.size 5 IsByte w1.heap (.slice pd nd qd) (SH.digest (F.take j)) ∧ Keeps wr w1 := hI
                  have c := keeps_cell hI.2 cj
                  go_simp
                  exact hK _ _ (Chg.refl _ _) hI rfl
                · intro _ a w1 vs hI ho hn hu K hK
                  obtain ⟨e50, g50⟩ : a.tmps[50]? = some (vs 4) ∧ vs 4 = .int .u32 (x : Int) := hn 4 (by decide)
                  rw [g50] at e50
                  clear g50
                  clear hn ho hu
                  have hI : OwnG wd.heap.size 5 IsByte w1.heap (.slice pd nd qd) (SH.digest (F.take j)) ∧ Keeps wr w1 := hI
                  go_simp
                  first | exact hK _ _ (Chg.refl _ _) hI rfl | (rw [W51.out]; exact hK _ _ (Chg.refl _ _) hI rfl)
                · intro _ a w1 vs hI ho hn hu K hK
                  obtain ⟨e51, g51⟩ : a.tmps[51]? = some (vs 5) ∧ vs 5 = .int .u32 ((x : Int) / 16777216) := hn 5 (by decide)
                  rw [g51] at e51
                  clear g51
                  clear hn ho hu
                  have hI : OwnG wd.heap.size 5 IsByte w1.heap (.slice pd nd qd) (SH.digest (F.take j)) ∧ Keeps wr w1 := hI
                  go_simp
                  first | exact hK _ _ (Chg.refl _ _) hI rfl | (rw [W52.out]; exact hK _ _ (Chg.refl _ _) hI rfl)
                · intro _ a w1 vs hI ho hn hu K hK
                  have e7 : a.tmps[7]? = some (.slice (some ⟨b7, o7, none⟩) 8 q7) := ho 7 rfl
                  clear hn ho hu
                  have hI : OwnG wd.heap.size 5 IsByte w1.heap (.slice pd nd qd) (SH.digest (F.take j)) ∧ Keeps wr w1 := hI
                  go_simp
                  exact hK _ _ (Chg.refl _ _) hI rfl
                · intro _ a w1 vs hI ho hn hu K hK
                  have e11 : a.tmps[11]? = some (.int .i64 (j : Int)) := ho 11 rfl
                  clear hn ho hu
                  have hI : OwnG wd.heap.size 5 IsByte w1.heap (.slice pd nd qd) (SH.digest (F.take j)) ∧ Keeps wr w1 := hI
                  go_simp
                  exact hK _ _ (Chg.refl _ _) hI rfl
                · intro _ a w1 vs hI ho hn hu K hK
                  obtain ⟨e53, g53⟩ : a.tmps[53]? = some (vs 7) ∧ vs 7 = .slice (some ⟨b7, o7, none⟩) 8 q7 := hn 7 (by decide)
                  rw [g53] at e53
                  clear g53
                  obtain ⟨e54, g54⟩ : a.tmps[54]? = some (vs 8) ∧ vs 8 = .int .i64 (j : Int) := hn 8 (by decide)
                  rw [g54] at e54
                  clear g54
                  clear hn ho hu
                  have hI : OwnG wd.heap.size 5 IsByte w1.heap (.slice pd nd qd) (SH.digest (F.take j)) ∧ Keeps wr w1 := hI
                  go_simp
                  exact hK _ _ (Chg.refl _ _) hI rfl
                · intro _ a w1 vs hI ho hn hu K hK
                  obtain ⟨e55, g55⟩ : a.tmps[55]? = some (vs 9) ∧ vs 9 = .pointer (some ⟨b7, o7 + j, none⟩) := hn 9 (by decide)
                  rw [g55] at e55
                  clear g55
                  clear hn ho hu
                  have hI : OwnG wd.heap.size 5 IsByte w1.heap (.slice pd nd qd) (SH.digest (F.take j)) ∧ Keeps wr w1 := hI
                  have c := keeps_cell hI.2 cj
                  go_simp
                  exact hK _ _ (Chg.refl _ _) hI rfl
                · intro _ a w1 vs hI ho hn hu K hK
                  obtain ⟨e56, g56⟩ : a.tmps[56]? = some (vs 10) ∧ vs 10 = .int .u32 (x : Int) := hn 10 (by decide)
                  rw [g56] at e56
                  clear g56
                  clear hn ho hu
                  have hI : OwnG wd.heap.size 5 IsByte w1.heap (.slice pd nd qd) (SH.digest (F.take j)) ∧ Keeps wr w1 := hI
                  go_simp
                  first | exact hK _ _ (Chg.refl _ _) hI rfl | (rw [W57.out]; exact hK _ _ (Chg.refl _ _) hI rfl)
                · intro _ a w1 vs hI ho hn hu K hK
                  obtain ⟨e57, g57⟩ : a.tmps[57]? = some (vs 11) ∧ vs 11 = .int .u32 ((x : Int) / 65536) := hn 11 (by decide)
                  rw [g57] at e57
                  clear g57
                  clear hn ho hu
                  have hI : OwnG wd.heap.size 5 IsByte w1.heap (.slice pd nd qd) (SH.digest (F.take j)) ∧ Keeps wr w1 := hI
                  go_simp
                  first | exact hK _ _ (Chg.refl _ _) hI rfl | (rw [W58.out]; exact hK _ _ (Chg.refl _ _) hI rfl)
                · intro _ a w1 vs hI ho hn hu K hK
                  obtain ⟨e58, g58⟩ : a.tmps[58]? = some (vs 12) ∧ vs 12 = .int .u32 ((x : Int) / 65536 % 256) := hn 12 (by decide)
                  rw [g58] at e58
                  clear g58
                  clear hn ho hu
                  have hI : OwnG wd.heap.size 5 IsByte w1.heap (.slice pd nd qd) (SH.digest (F.take j)) ∧ Keeps wr w1 := hI
                  go_simp
                  first | exact hK _ _ (Chg.refl _ _) hI rfl | (rw [W59.out]; exact hK _ _ (Chg.refl _ _) hI rfl)
                · intro _ a w1 vs hI ho hn hu K hK
                  have e7 : a.tmps[7]? = some (.slice (some ⟨b7, o7, none⟩) 8 q7) := ho 7 rfl
                  clear hn ho hu
                  have hI : OwnG wd.heap.size 5 IsByte w1.heap (.slice pd nd qd) (SH.digest (F.take j)) ∧ Keeps wr w1 := hI
                  go_simp
                  exact hK _ _ (Chg.refl _ _) hI rfl
                · intro _ a w1 vs hI ho hn hu K hK
                  have e11 : a.tmps[11]? = some (.int .i64 (j : Int)) := ho 11 rfl
                  clear hn ho hu
                  have hI : OwnG wd.heap.size 5 IsByte w1.heap (.slice pd nd qd) (SH.digest (F.take j)) ∧ Keeps wr w1 := hI
                  go_simp
                  exact hK _ _ (Chg.refl _ _) hI rfl
                · intro _ a w1 vs hI ho hn hu K hK
                  obtain ⟨e60, g60⟩ : a.tmps[60]? = some (vs 14) ∧ vs 14 = .slice (some ⟨b7, o7, none⟩) 8 q7 := hn 14 (by decide)
                  rw [g60] at e60
                  clear g60
                  obtain ⟨e61, g61⟩ : a.tmps[61]? = some (vs 15) ∧ vs 15 = .int .i64 (j : Int) := hn 15 (by decide)
                  rw [g61] at e61
                  clear g61
                  clear hn ho hu
                  have hI : OwnG wd.heap.size 5 IsByte w1.heap (.slice pd nd qd) (SH.digest (F.take j)) ∧ Keeps wr w1 := hI
                  go_simp
                  exact hK _ _ (Chg.refl _ _) hI rfl
                · intro _ a w1 vs hI ho hn hu K hK
                  obtain ⟨e62, g62⟩ : a.tmps[62]? = some (vs 16) ∧ vs 16 = .pointer (some ⟨b7, o7 + j, none⟩) := hn 16 (by decide)
                  rw [g62] at e62
                  clear g62
                  clear hn ho hu
                  have hI : OwnG wd.heap.size 5 IsByte w1.heap (.slice pd nd qd) (SH.digest (F.take j)) ∧ Keeps wr w1 := hI
                  have c := keeps_cell hI.2 cj
                  go_simp
                  exact hK _ _ (Chg.refl _ _) hI rfl
                · intro _ a w1 vs hI ho hn hu K hK
                  obtain ⟨e63, g63⟩ : a.tmps[63]? = some (vs 17) ∧ vs 17 = .int .u32 (x : Int) := hn 17 (by decide)
                  rw [g63] at e63
                  clear g63
                  clear hn ho hu
                  have hI : OwnG wd.heap.size 5 IsByte w1.heap (.slice pd nd qd) (SH.digest (F.take j)) ∧ Keeps wr w1 := hI
                  go_simp
                  first | exact hK _ _ (Chg.refl _ _) hI rfl | (rw [W64.out]; exact hK _ _ (Chg.refl _ _) hI rfl)
                · intro _ a w1 vs hI ho hn hu K hK
                  obtain ⟨e64, g64⟩ : a.tmps[64]? = some (vs 18) ∧ vs 18 = .int .u32 ((x : Int) / 256) := hn 18 (by decide)
                  rw [g64] at e64
                  clear g64
                  clear hn ho hu
                  have hI : OwnG wd.heap.size 5 IsByte w1.heap (.slice pd nd qd) (SH.digest (F.take j)) ∧ Keeps wr w1 := hI
                  go_simp
                  first | exact hK _ _ (Chg.refl _ _) hI rfl | (rw [W65.out]; exact hK _ _ (Chg.refl _ _) hI rfl)
                · intro _ a w1 vs hI ho hn hu K hK
                  obtain ⟨e65, g65⟩ : a.tmps[65]? = some (vs 19) ∧ vs 19 = .int .u32 ((x : Int) / 256 % 256) := hn 19 (by decide)
                  rw [g65] at e65
                  clear g65
                  clear hn ho hu
                  have hI : OwnG wd.heap.size 5 IsByte w1.heap (.slice pd nd qd) (SH.digest (F.take j)) ∧ Keeps wr w1 := hI
                  go_simp
                  first | exact hK _ _ (Chg.refl _ _) hI rfl | (rw [W66.out]; exact hK _ _ (Chg.refl _ _) hI rfl)
                · intro _ a w1 vs hI ho hn hu K hK
                  have e7 : a.tmps[7]? = some (.slice (some ⟨b7, o7, none⟩) 8 q7) := ho 7 rfl
                  clear hn ho hu
                  have hI : OwnG wd.heap.size 5 IsByte w1.heap (.slice pd nd qd) (SH.digest (F.take j)) ∧ Keeps wr w1 := hI
                  go_simp
                  exact hK _ _ (Chg.refl _ _) hI rfl
                · intro _ a w1 vs hI ho hn hu K hK
                  have e11 : a.tmps[11]? = some (.int .i64 (j : Int)) := ho 11 rfl
                  clear hn ho hu
                  have hI : OwnG wd.heap.size 5 IsByte w1.heap (.slice pd nd qd) (SH.digest (F.take j)) ∧ Keeps wr w1 := hI
                  go_simp
                  exact hK _ _ (Chg.refl _ _) hI rfl
                · intro _ a w1 vs hI ho hn hu K hK
                  obtain ⟨e67, g67⟩ : a.tmps[67]? = some (vs 21) ∧ vs 21 = .slice (some ⟨b7, o7, none⟩) 8 q7 := hn 21 (by decide)
                  rw [g67] at e67
                  clear g67
                  obtain ⟨e68, g68⟩ : a.tmps[68]? = some (vs 22) ∧ vs 22 = .int .i64 (j : Int) := hn 22 (by decide)
                  rw [g68] at e68
                  clear g68
                  clear hn ho hu
                  have hI : OwnG wd.heap.size 5 IsByte w1.heap (.slice pd nd qd) (SH.digest (F.take j)) ∧ Keeps wr w1 := hI
                  go_simp
                  exact hK _ _ (Chg.refl _ _) hI rfl
                · intro _ a w1 vs hI ho hn hu K hK
                  obtain ⟨e69, g69⟩ : a.tmps[69]? = some (vs 23) ∧ vs 23 = .pointer (some ⟨b7, o7 + j, none⟩) := hn 23 (by decide)
                  rw [g69] at e69
                  clear g69
                  clear hn ho hu
                  have hI : OwnG wd.heap.size 5 IsByte w1.heap (.slice pd nd qd) (SH.digest (F.take j)) ∧ Keeps wr w1 := hI
                  have c := keeps_cell hI.2 cj
                  go_simp
                  exact hK _ _ (Chg.refl _ _) hI rfl
                · intro _ a w1 vs hI ho hn hu K hK
                  obtain ⟨e70, g70⟩ : a.tmps[70]? = some (vs 24) ∧ vs 24 = .int .u32 (x : Int) := hn 24 (by decide)
                  rw [g70] at e70
                  clear g70
                  clear hn ho hu
                  have hI : OwnG wd.heap.size 5 IsByte w1.heap (.slice pd nd qd) (SH.digest (F.take j)) ∧ Keeps wr w1 := hI
                  go_simp
                  first | exact hK _ _ (Chg.refl _ _) hI rfl | (rw [W71.out]; exact hK _ _ (Chg.refl _ _) hI rfl)
                · intro _ a w1 vs hI ho hn hu K hK
                  obtain ⟨e71, g71⟩ : a.tmps[71]? = some (vs 25) ∧ vs 25 = .int .u32 ((x : Int) % 256) := hn 25 (by decide)
                  rw [g71] at e71
                  clear g71
                  clear hn ho hu
                  have hI : OwnG wd.heap.size 5 IsByte w1.heap (.slice pd nd qd) (SH.digest (F.take j)) ∧ Keeps wr w1 := hI
                  go_simp
                  first | exact hK _ _ (Chg.refl _ _) hI rfl | (rw [W72.out]; exact hK _ _ (Chg.refl _ _) hI rfl)
                · intro _ a w1 vs hI ho hn hu K hK
                  obtain ⟨e52, g52⟩ : a.tmps[52]? = some (vs 6) ∧ vs 6 = .int .u8 ((x : Int) / 16777216) := hn 6 (by decide)
                  rw [g52] at e52
                  clear g52
                  obtain ⟨e59, g59⟩ : a.tmps[59]? = some (vs 13) ∧ vs 13 = .int .u8 ((x : Int) / 65536 % 256) := hn 13 (by decide)
                  rw [g59] at e59
                  clear g59
                  obtain ⟨e66, g66⟩ : a.tmps[66]? = some (vs 20) ∧ vs 20 = .int .u8 ((x : Int) / 256 % 256) := hn 20 (by decide)
                  rw [g66] at e66
                  clear g66
                  obtain ⟨e72, g72⟩ : a.tmps[72]? = some (vs 26) ∧ vs 26 = .int .u8 ((x : Int) % 256) := hn 26 (by decide)
                  rw [g72] at e72
                  clear g72
                  clear hn ho hu
                  have hI : OwnG wd.heap.size 5 IsByte w1.heap (.slice pd nd qd) (SH.digest (F.take j)) ∧ Keeps wr w1 := hI
                  go_simp
                  exact hK _ _ (Kept.any (kal _ _)) ⟨hI.1.keeps (kal _ _), hI.2.trans (kal _ _)⟩ (seqIn_lit w1 (#[.int .u8 ((x : Int) / 16777216), .int .u8 ((x : Int) / 65536 % 256), .int .u8 ((x : Int) / 256 % 256), .int .u8 ((x : Int) % 256)] : Array Value) 5 (SH.four x) (HSZ.out _ hI.2) HFL.out HFE.out)
                · intro _ a w1 vs hI ho hn hu K hK
                  obtain ⟨e46, g46⟩ : a.tmps[46]? = some (vs 0) ∧ vs 0 = .slice pd nd qd := hn 0 (by decide)
                  rw [g46] at e46
                  clear g46
                  obtain ⟨e73, g73⟩ : a.tmps[73]? = some (vs 27) ∧ SeqIn (N ≤ ·) 5 IsByte w1.heap (vs 27) (SH.four x) := hn 27 (by decide)
                  clear hn ho hu
                  have hI : OwnG wd.heap.size 5 IsByte w1.heap (.slice pd nd qd) (SH.digest (F.take j)) ∧ Keeps wr w1 := hI
                  refine oper_appG elByte (R := IsByte) (l := (SH.digest (F.take j))) (m := (SH.four x)) (fun u x h => by rw [h]; rfl) (.tmp 46) (.tmp 73) rfl wd.heap.size (.slice pd nd qd) (by simp [Act.eval, e46]) hI.1 (vs 27) (by simp [Act.eval, e73]) (SeqIn.at_ g73) (by rw [dig_len F HOKF.out.1 hj]; have h4 : (SH.four x).length = 4 := rfl; omega) (Nat.le_trans HW.out hI.2.size) ?_
                  intro v' w' ho hc _
                  exact hK v' w' (hc.mono fun b _ hb => HLT.out b hb) ⟨by rw [upd_self]; exact ho, own_then hI.1 (HKR.out.trans hI.2) (Nat.le_refl _) (Nat.le_trans HW.out hI.2.size) hc⟩ trivial
                · intro _ a w1 vs hI ho hn hu K hK
                  obtain ⟨e74, g74⟩ : a.tmps[74]? = some (vs 28) ∧ True := hn 28 (by decide)
                  clear hn ho hu
                  have hI : OwnG wd.heap.size 5 IsByte w1.heap (vs 28) ((SH.digest (F.take j)) ++ (SH.four x)) ∧ Keeps wd w1 := hI
                  go_simp
                  exact hK _ _ (Chg.refl _ _) ⟨by rw [upd_self]; exact hI.1, hI.2⟩ trivial
              · intro vs w4 hI hG
                have hI : OwnG wd.heap.size 5 IsByte w4.heap (vs 29) ((SH.digest (F.take j)) ++ (SH.four x)) ∧ Keeps wd w4 := hI
                clear hG
                simp only [setAll, Nat.zero_add, Nat.reduceAdd, List.setIfInBounds_toArray, List.set_cons_zero, List.set_cons_succ]
                have HO4 : Hid (OwnG wd.heap.size 5 IsByte w4.heap (vs 29) (SH.digest (F.take (j + 1)))) := by
                  show OwnG _ _ _ _ _ _
                  rw [HDS.out]; exact hI.1
                have HK4 : Hid (Keeps wd w4) := hI.2
                clear hI
                generalize vs 0 = y0 at *
                generalize vs 1 = y1 at *
                generalize vs 2 = y2 at *
                generalize vs 3 = y3 at *
                generalize vs 4 = y4 at *
                generalize vs 5 = y5 at *
                generalize vs 6 = y6 at *
                generalize vs 7 = y7 at *
                generalize vs 8 = y8 at *
                generalize vs 9 = y9 at *
                generalize vs 10 = y10 at *
                generalize vs 11 = y11 at *
                generalize vs 12 = y12 at *
                generalize vs 13 = y13 at *
                generalize vs 14 = y14 at *
                generalize vs 15 = y15 at *
                generalize vs 16 = y16 at *
                generalize vs 17 = y17 at *
                generalize vs 18 = y18 at *
                generalize vs 19 = y19 at *
                generalize vs 20 = y20 at *
                generalize vs 21 = y21 at *
                generalize vs 22 = y22 at *
                generalize vs 23 = y23 at *
                generalize vs 24 = y24 at *
                generalize vs 25 = y25 at *
                generalize vs 26 = y26 at *
                generalize vs 27 = y27 at *
                generalize vs 28 = y28 at *
                generalize vs 29 = y29 at *
                clear HO HK HSZ HLT HKR
                go_wp2_with fail
                exact ⟨⟨j + 1, by omega, by go_num, HO4, HK4⟩, by simp [intOf]; omega⟩
            · obtain rfl : j = 8 := by omega
              have HRA : Hid (RowAt wr.heap (.slice pd (SH.digest (F.take 8)).length qd) (SH.digest (F.take 8))) := SeqIn.at_ hO.out.seq
              have HTX : Hid (strB (SH.digest (F.take 8)) = sumT s) := by
                show _ = _
                rw [HSM.out, HFF.out, List.take_of_length_le (by rw [HOKF.out.1]; exact Nat.le_refl _)]
              have hcv := conv_row (P := Try.prog) (src := 56) (dst := 9) (e := 5) Try.underlying56 (by kernel_rfl) Try.underlying9 HRA.out
              rw [HTX.out] at hcv
              have HOW := Lib.hid (HOD.out.keeps hK.out)
              have HKW := Lib.hid (HKD.out.trans hK.out)
              have hsw : w1.heap.size ≤ wr.heap.size := HKW.out.size
              clear hO hK HRA HTX HSM HFF HND HOD HKD HW HDL
              generalize (SH.digest (F.take 8)).length = nd at *
              generalize sumT s = t at *
              go_wp2_with (at_builtin; refine wp_appG elText (R := IsText) (l := (l.take k).map sumT) (m := [t]) (fun u x h => by rw [h]; rfl) rfl (.tmp 75) (.tmp 78) rfl w1.heap.size _ rfl ?f1 _ rfl ?f2 ?f3 ?f4 ?_)
              case f1 => exact HOW.out.keeps (kal _ _)
              case f2 => exact textsAt_lit wr [t] 1 1 rfl (by omega)
              case f3 => rw [HOL.out]; simp; omega
              case f4 => simp; omega
              intro v3 w3 ho3 hc3 _
              have HO3 : Hid (OwnG w1.heap.size 9 IsText w3.heap v3 ((l.take (k + 1)).map sumT)) := by
                show OwnG _ _ _ _ _ _
                rw [HTK.out]
                first | exact ho3 | (rw [List.map_take]; exact ho3)
              have HK3 : Hid (Keeps w1 w3) := own_then (HOW.out.keeps (kal _ _)) (HKW.out.trans (kal _ _)) (Nat.le_refl _) (by simp; omega) hc3
              clear ho3 hc3
              go_wp2_with fail
              refine ⟨?_, by simp [intOf]; omega⟩
              first | exact ⟨k + 1, by omega, by go_num, HO3, HK3⟩ | ((repeat apply Exists.intro); exact ⟨⟨k + 1, by omega, by go_num, HO3, HK3⟩, rfl⟩)
    · obtain rfl : k = l.length := by omega
      have HO := Lib.hid (hO.out.lower HK1.out.size)
      have HKF := Lib.hid (HK1.out.trans hK.out)
      clear hO hK
      go_wp2_with fail
      go_ret
      rw [List.take_length] at HO
      exact ⟨_, rfl, HO.out, HKF.out⟩
set_option maxRecDepth 100000 in
set_option maxHeartbeats 4000000 in
theorem refsum_any (s : ByteArray) (w : World) (hs : s.size ≤ 1000000) :
    Calls Try.prog 57 #[.string s] w fun e w' => e = .returned (.string (strB (SH.sumB s.data.toList))) ∧ Keeps w w' := by
  go_enter Try.func57, Try.ntmps57
  go_wp2_with fail
  refine Calls.mono (refsums_any _ [s] _ (textsAt_lit w [s] 1 1 rfl (by omega)) (by simp) (by intro x hx; rw [List.mem_singleton.1 hx]; exact hs)) ?_
  rintro e w2 ⟨v, rfl, ho, hk⟩
  have HK : Hid (Keeps w w2) := Keeps.trans (kal w _) hk
  obtain ⟨b, off, c, u, rfl, d1, r1⟩ := seq_cell (SeqIn.at_ ho.seq) (i := 0) (by simp)
  have r2 : u = .string (sumT s) := r1
  subst r2
  have HT : Hid (sumT s = strB (SH.sumB s.data.toList)) := rfl
  have hl1 : ([s].map sumT).length = 1 := rfl
  rw [hl1]
  clear ho hk r1 hl1
  rw [Nat.add_zero] at d1
  generalize sumT s = t at *
  go_wp2_with fail
  go_ret
  exact ⟨by rw [← HT.out]; rfl, HK.out⟩
end Go.Proofs.Yteandjophamipaa
