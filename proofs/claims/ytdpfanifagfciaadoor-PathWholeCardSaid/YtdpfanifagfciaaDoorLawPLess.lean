/- The walk of the law PathLess. -/
import Derived.Test.YtdpfanifagfciaaDoorLawPUp
import Derived.Test.YtdpfanifagfciaaDoorRecCut
import Derived.Deep.DeepCutAuto
namespace Go.Proofs.YtdpfanifagfciaaDoor
open Go.RowKit
attribute [local go_sem ↓] Go.wp_at_zero Go.wp_at_succ
theorem elFile : ElemTyK Tryd.prog 44 47 (.agg #[.string ByteArray.empty, .bool false, .string ByteArray.empty]) 3 40 := ⟨Tryd.underlying44, by kernel_rfl, rfl, by decide, by decide⟩
theorem rem_small (n : Int) (m : Nat) (h : 0 < m) (hm : m ≤ 100000) : ∃ κ : Nat, κ < m ∧ wrap64 ((IntKind.u64.wrap n).tmod (m : Int)) = (κ : Int) := by
  have h0 : 0 ≤ IntKind.u64.wrap n := by unfold IntKind.wrap; simp [IntKind.signed, IntKind.bits]; omega
  have h1 : (IntKind.u64.wrap n).tmod (m : Int) = IntKind.u64.wrap n % (m : Int) := Int.tmod_eq_emod_of_nonneg h0
  have h2 := Int.emod_nonneg (IntKind.u64.wrap n) (show (m : Int) ≠ 0 by omega)
  have h3 := Int.emod_lt_of_pos (IntKind.u64.wrap n) (show (0 : Int) < m by omega)
  rw [h1]
  refine ⟨(IntKind.u64.wrap n % (m : Int)).toNat, by omega, ?_⟩
  unfold wrap64; omega
def inTo (l : List FileR) (κ k : Nat) : Bool := (l.take k).any fun x => upIs x.p && decide (upT x.p = (fAt l κ).p)
theorem inTo_succ {l : List FileR} {κ k : Nat} (h : k < l.length) : inTo l κ (k + 1) = (inTo l κ k || (upIs (fAt l k).p && ((upT (fAt l k).p).toList == (fAt l κ).p.toList))) := by
  unfold inTo
  rw [take_fAt h, List.any_append, txt_eq]; simp
theorem inTo_all (l : List FileR) (κ : Nat) : inTo l κ l.length = inF l κ := by unfold inTo inF; rw [List.take_length]
theorem dirIn_succ {l : List FileR} {u : ByteArray} {k : Nat} (h : k < l.length) : dirIn (l.take (k + 1)) u = (dirIn (l.take k) u || (((fAt l k).p.toList == u.toList) && (fAt l k).d)) := by
  rw [take_fAt h, dirIn_snoc, txt_eq]
theorem smallF_less {l : List FileR} (h : longF l = false) (κ : Nat) : SmallF (l.take κ ++ l.drop (κ + 1)) := smallF_of fun x hx => by
  have hm : x ∈ l := by
    rcases List.mem_append.1 hx with h | h
    · exact List.mem_of_mem_take h
    · exact List.mem_of_mem_drop h
  have := (longF_no h).2 x hm
  omega
set_option maxRecDepth 100000 in
set_option maxHeartbeats 8000000 in
theorem pathless_any (v : Value) (l : List FileR) (at_ : Int) (w : World) (h : FilesAt w.heap v l) (hcap : ∀ a n q, v = .slice a n q → n ≤ q) : Calls Tryd.prog 7 #[v, .int .i64 at_] w fun e w' => e = .returned (.bool true) ∧ Keeps w w' := by
  obtain ⟨pa, qa, rfl⟩ := rec_shape h
  have hqa : l.length ≤ qa := hcap _ _ _ rfl
  have H := Lib.hid h
  clear h hcap
  cases hlb : longF l with
  | true =>
    have HL := Lib.hid hlb
    clear hlb
    go_enter Tryd.func7, Tryd.ntmps7
    go_wp2_with fail
    refine Calls.mono (long18_any _ l _ H.out) ?_
    rintro e w' ⟨rfl, rfl⟩
    rw [HL.out]
    go_wp2_with fail
    refine Calls.mono (awake_any _) ?_
    rintro e w1 ⟨rfl, hk⟩
    go_wp2_with fail
    go_ret
    exact ⟨rfl, hk⟩
  | false =>
  have HL := Lib.hid hlb
  obtain ⟨hln, _⟩ := longF_no hlb
  clear hlb
  go_enter Tryd.func7, Tryd.ntmps7
  go_wp2_with fail
  refine Calls.mono (long18_any _ l _ H.out) ?_
  rintro e w' ⟨rfl, rfl⟩
  rw [HL.out]
  go_wp2_with fail
  refine Calls.mono (awake_any _) ?_
  rintro e w1 ⟨rfl, hk⟩
  have HK1 := Lib.hid hk
  have H1 := Lib.hid (RecAt.keeps H.out hk)
  clear hk
  go_wp2_with fail
  refine Calls.mono (tree_any _ l _ H1.out (longF_small HL.out)) ?_
  rintro e w3 ⟨rfl, hk⟩
  have HK3 := Lib.hid (HK1.out.trans hk)
  have H3 := Lib.hid (RecAt.keeps H1.out hk)
  clear hk HK1 H1 H
  cases ht : treeF l with
  | false =>
    clear ht
    go_wp2_with fail
    go_ret
    exact ⟨rfl, HK3.out⟩
  | true =>
    have HT := Lib.hid (tree_of ht)
    clear ht
    by_cases h0 : l.length = 0
    · have g1 : ((l.length : Int) == 0) = true := by rw [h0]; rfl
      have g2 : decide ((l.length : Int) = 0) = true := decide_eq_true (by omega)
      clear HT HL H3
      generalize l.length = n at *
      subst h0
      go_wp2_with fail
      go_ret
      exact ⟨rfl, HK3.out⟩
    have g1 : ((l.length : Int) == 0) = false := beq_false_of_ne (by omega)
    have g2 : decide ((l.length : Int) = 0) = false := decide_eq_false (by omega)
    obtain ⟨κ, hκ, hke⟩ := rem_small at_ l.length (by omega) (by omega)
    have HKE := Lib.hid hke
    obtain ⟨b5, o5, rfl, _⟩ := file_cell H3.out (i := 0) (by omega)
    obtain ⟨us, hu1, hu2, hu3, hu4⟩ := rec_us H3.out
    obtain ⟨us', hv1, hv2, hv3, hv4⟩ := cut_recs hκ hu1 hu2 hu3
    have HFL : Hid (us.flatten.length = l.length * 3) := by show _ = _; rw [flat_length us hu2, hu1]
    have HF : Hid (∀ wx, Keeps w3 wx → ∀ j (hj : j < us.flatten.length), wx.cell? ⟨b5, o5 + j, none⟩ = some us.flatten[j]) := fun wx hk j hj => keeps_cell hk (by rw [cell_of]; exact hu4 j hj)
    have HF1 : Hid (∀ u ∈ us.flatten, u.oneCell' = true) := fun u hu => by
      obtain ⟨x, hx, hx2⟩ := List.mem_flatten.1 hu
      obtain ⟨i, hi, rfl⟩ := List.getElem_of_mem hx
      have hr := hu3 i hi (by omega)
      unfold IsFile at hr
      rw [hr] at hx2
      simp at hx2
      rcases hx2 with rfl | rfl | rfl <;> rfl
    have HV : Hid (∀ wx vv, wx.ownsRow w3.heap.size 47 3 vv (l.length - 1) (us.flatten.take (κ * 3) ++ us.flatten.drop ((κ + 1) * 3)) → OwnRec w3.heap.size 47 3 IsFile wx vv (l.take κ ++ l.drop (κ + 1))) := fun wx vv hh => by
      rw [hv1] at hh
      exact ownRec_of hh hv2 hv3 hv4
    clear hke h0 hu1 hu2 hu3 hu4 hv1 hv2 hv3 hv4
    generalize us.flatten = F at *
    go_wp2_with fail
    rw [HKE.out]
    refine wp_region_line [35, 36, 37, 38, 39, 40, 41, 42, 43, 44, 6] [[], [], [], [1, 2], [0, 3], [], [], [6], [5, 7], [4, 8], [9]] [[], [], [], [], [0], [], [], [], [], [0, 4], []] (lessK 47 3 w3.heap.size F l.length κ b5 o5 qa) (by kernel_rfl) (by kernel_rfl) (by kernel_rfl) (by kernel_rfl) (by kernel_rfl) (by kernel_rfl) ?_ ?_ ?_
    · repeat (first | exact trivial | (refine ⟨guard_none rfl, ?_⟩))
    · refine ⟨?_, ?_, ?_, ?_, ?_, ?_, ?_, ?_, ?_, ?_, ?_, trivial⟩
      · intro a w1 vs hk ho hn K hK
        clear hn ho
        go_simp
        exact hK _ _ (hk.alloc (Nat.le_refl _) _) (fun j u _ _ _ _ hg => lessK_alloc hg _) (own_emptyK w1 w3.heap.size 47 3 hk.size)
      · intro a w1 vs hk ho hn K hK
        have e0 : a.tmps[0]? = some (.slice (some ⟨b5, o5, none⟩) l.length qa) := ho 0 rfl
        clear hn ho
        go_simp
        exact hK _ _ hk (fun _ _ _ _ _ _ h => h) rfl
      · intro a w1 vs hk ho hn K hK
        have e17 : a.tmps[5]? = some (.int .i64 (κ : Int)) := ho 5 rfl
        clear hn ho
        go_simp
        exact hK _ _ hk (fun _ _ _ _ _ _ h => h) rfl
      · intro a w1 vs hk ho hn K hK
        obtain ⟨e1, g1⟩ : a.tmps[36]? = some (vs 1) ∧ vs 1 = .slice (some ⟨b5, o5, none⟩) l.length qa := hn 1 (by decide)
        obtain ⟨e2, g2⟩ : a.tmps[37]? = some (vs 2) ∧ vs 2 = .int .i64 (κ : Int) := hn 2 (by decide)
        rw [g1] at e1
        rw [g2] at e2
        clear hn ho g1 g2
        have f1 : (0 : Int) ≤ (κ : Int) := by omega
        have f2 : (κ : Int) ≤ (qa : Int) := by omega
        have f3 : κ ≤ qa := by omega
        go_simp
        exact hK _ _ hk (fun _ _ _ _ _ _ h => h) rfl
      · intro a w1 vs hk ho hn K hK
        obtain ⟨e0, g0⟩ : a.tmps[35]? = some (vs 0) ∧ w1.ownsRow w3.heap.size 47 3 (vs 0) 0 [] := hn 0 (by decide)
        obtain ⟨e3, g3⟩ : a.tmps[38]? = some (vs 3) ∧ vs 3 = .slice (some ⟨b5, o5, none⟩) κ qa := hn 3 (by decide)
        rw [g3] at e3
        clear hn ho g3
        have hls : (F.take (κ * 3)).length = κ * 3 := by have := HFL.out; rw [List.length_take]; omega
        refine oper_apprs elFile rfl (.tmp 35) (.tmp 38) rfl w3.heap.size (vs 0) 0 [] (by simp [Act.eval, e0]) g0 b5 o5 κ qa (F.take (κ * 3)) (by simp [Act.eval, e3]) hls (fun j hj => by rw [List.getElem_take]; exact HF.out w1 hk j _) (fun u hu => HF1.out u (List.mem_of_mem_take hu)) (by omega) hk.size ?_
        intro v' w' hown hchg
        refine hK v' w' (hk.then (Chg.kept (hchg.mono (T' := fun b => w3.heap.size ≤ b) fun b _ hb => (own_blockK g0 b hb).1) hk.size) (Nat.le_refl _)) (fun j u h1 h2 h3 h4 hg => ?_) ?_
        · have k0 : j ≠ 0 := fun e => by subst e; cases h1
          have k9 : j ≠ 9 := fun e => by subst e; cases h3
          have k10 : j ≠ 10 := fun e => by subst e; cases h4
          exact lessK_same hg k0 h2 k9 k10
        · show World.ownsRow _ _ _ _ _ _ _
          simpa using hown
      · intro a w1 vs hk ho hn K hK
        have e0 : a.tmps[0]? = some (.slice (some ⟨b5, o5, none⟩) l.length qa) := ho 0 rfl
        clear hn ho
        go_simp
        exact hK _ _ hk (fun _ _ _ _ _ _ h => h) rfl
      · intro a w1 vs hk ho hn K hK
        have e17 : a.tmps[5]? = some (.int .i64 (κ : Int)) := ho 5 rfl
        clear hn ho
        go_simp
        exact hK _ _ hk (fun _ _ _ _ _ _ h => h) rfl
      · intro a w1 vs hk ho hn K hK
        obtain ⟨e2, g2⟩ : a.tmps[41]? = some (vs 6) ∧ vs 6 = .int .i64 (κ : Int) := hn 6 (by decide)
        rw [g2] at e2
        clear hn ho g2
        have f4 : IntKind.i64.wrap ((κ : Int) + 1) = (κ : Int) + 1 := IntWalk.i64_in _ (by omega)
        go_simp
        exact hK _ _ hk (fun _ _ _ _ _ _ h => h) rfl
      · intro a w1 vs hk ho hn K hK
        obtain ⟨e1, g1⟩ : a.tmps[40]? = some (vs 5) ∧ vs 5 = .slice (some ⟨b5, o5, none⟩) l.length qa := hn 5 (by decide)
        obtain ⟨e2, g2⟩ : a.tmps[42]? = some (vs 7) ∧ vs 7 = .int .i64 ((κ : Int) + 1) := hn 7 (by decide)
        rw [g1] at e1
        rw [g2] at e2
        clear hn ho g1 g2
        have f1 : (0 : Int) ≤ (κ : Int) + 1 := by omega
        have f2 : (κ : Int) + 1 ≤ (l.length : Int) := by omega
        have f3 : ((κ : Int) + 1).toNat = κ + 1 := by omega
        have f5 : κ + 1 ≤ l.length := by omega
        go_simp
        exact hK _ _ hk (fun _ _ _ _ _ _ h => h) rfl
      · intro a w1 vs hk ho hn K hK
        obtain ⟨e0, g0⟩ : a.tmps[39]? = some (vs 4) ∧ w1.ownsRow w3.heap.size 47 3 (vs 4) κ (F.take (κ * 3)) := hn 4 (by decide)
        obtain ⟨e3, g3⟩ : a.tmps[43]? = some (vs 8) ∧ vs 8 = .slice (if qa = κ + 1 then some ⟨b5, o5, none⟩ else some ⟨b5, o5 + (κ + 1) * 3, none⟩) (l.length - (κ + 1)) (qa - (κ + 1)) := hn 8 (by decide)
        clear hn ho
        have hld : (F.drop ((κ + 1) * 3)).length = (l.length - (κ + 1)) * 3 := by have := HFL.out; rw [List.length_drop]; omega
        obtain ⟨off, hoff, hcell⟩ : ∃ off, (if qa = κ + 1 then some (⟨b5, o5, none⟩ : Addr) else some ⟨b5, o5 + (κ + 1) * 3, none⟩) = some ⟨b5, off, none⟩ ∧ ∀ j (h : j < (F.drop ((κ + 1) * 3)).length), w1.cell? ⟨b5, off + j, none⟩ = some (F.drop ((κ + 1) * 3))[j] := by
          by_cases hq : qa = κ + 1
          · exact ⟨o5, if_pos hq, fun j h => absurd h (by rw [hld]; omega)⟩
          · exact ⟨_, if_neg hq, fun j h => by rw [List.getElem_drop, Nat.add_assoc]; exact HF.out w1 hk _ _⟩
        rw [g3, hoff] at e3
        clear g3 hoff
        refine oper_apprs elFile rfl (.tmp 39) (.tmp 43) rfl w3.heap.size (vs 4) κ (F.take (κ * 3)) (by simp [Act.eval, e0]) g0 b5 off (l.length - (κ + 1)) (qa - (κ + 1)) (F.drop ((κ + 1) * 3)) (by simp [Act.eval, e3]) hld hcell (fun u hu => HF1.out u (List.mem_of_mem_drop hu)) (by omega) hk.size ?_
        intro v' w' hown hchg
        refine hK v' w' (hk.then (Chg.kept (hchg.mono (T' := fun b => w3.heap.size ≤ b) fun b _ hb => (own_blockK g0 b hb).1) hk.size) (Nat.le_refl _)) (fun j u h1 h2 h3 h4 hg => ?_) ?_
        · have k0 : j ≠ 0 := fun e => by subst e; cases h1
          have k4 : j ≠ 4 := fun e => by subst e; cases h1
          have k10 : j ≠ 10 := fun e => by subst e; cases h3
          exact lessK_same hg k0 k4 h2 k10
        · show World.ownsRow _ _ _ _ _ _ _
          have h := hown
          have e10 : κ + (l.length - (κ + 1)) = l.length - 1 := by omega
          rw [e10] at h
          exact h
      · intro a w1 vs hk ho hn K hK
        obtain ⟨e2, g2⟩ : a.tmps[44]? = some (vs 9) ∧ w1.ownsRow w3.heap.size 47 3 (vs 9) (l.length - 1) (F.take (κ * 3) ++ F.drop ((κ + 1) * 3)) := hn 9 (by decide)
        clear hn ho
        go_simp
        exact hK _ _ hk (fun _ _ _ _ _ _ h => h) g2
    · intro vs w4 hk hG
      have g2 : w4.ownsRow w3.heap.size 47 3 (vs 10) (l.length - 1) (F.take (κ * 3) ++ F.drop ((κ + 1) * 3)) := hG 10 (by decide) (by decide)
      have hrec := HV.out _ _ g2
      have hll : (l.take κ ++ l.drop (κ + 1)).length = l.length - 1 := by simp; omega
      obtain ⟨vl, hvl⟩ : ∃ v, vs 10 = v := ⟨_, rfl⟩
      rw [hvl] at hrec
      have g3 := (hrec.seq (by omega)).at_
      obtain ⟨pl, ql, rfl⟩ := rec_shape g3
      have HLS := Lib.hid g3
      have HK4 := Lib.hid (HK3.out.trans hk)
      have H4 := Lib.hid (RecAt.keeps H3.out hk)
      clear hG hk g2 g3 hrec hll
      generalize hle : l.take κ ++ l.drop (κ + 1) = le at *
      have HLE := Lib.hid hle
      simp only [setAll, Nat.zero_add, Nat.reduceAdd, List.setIfInBounds_toArray, List.set_cons_zero, List.set_cons_succ, hvl]
      clear hvl hle HF HF1 HFL HV HKE g1 H3 HK3
      generalize vs 0 = x0
      generalize vs 1 = x1
      generalize vs 2 = x2
      generalize vs 3 = x3
      generalize vs 4 = x4
      generalize vs 5 = x5
      generalize vs 6 = x6
      generalize vs 7 = x7
      generalize vs 8 = x8
      generalize vs 9 = x9
      go_wp2_with fail
      go_loopw [7, 8] (fun t i wr => ∃ k : Nat, k ≤ l.length ∧ i = .int .i64 k ∧ t = .bool (inTo l κ k) ∧ w4 = wr) (fun _ i _ => l.length - (intOf i).toNat)
      case atStart => exact ⟨0, by omega, rfl, rfl, rfl⟩
      case round =>
        obtain ⟨k, hk, rfl, rfl, rfl⟩ := hrel
        by_cases hlt : k < l.length
        · have hlt64 : (k : Int) < (l.length : Int) := by omega
          have hk0 : (0 : Int) ≤ (k : Int) := by omega
          have hκ0 : (0 : Int) ≤ (κ : Int) := by omega
          have hκ64 : (κ : Int) < (l.length : Int) := by omega
          obtain ⟨b6, o6, e6, _, d0, _, _⟩ := file_cell H4.out hlt
          obtain ⟨b7, o7, e7, _, d7, _, _⟩ := file_cell H4.out hκ
          injection e6 with e6
          injection e6 with e61 e62 _
          subst e61 e62
          injection e7 with e7
          injection e7 with e71 e72 _
          subst e71 e72
          have HPS := Lib.hid ((longF_no HL.out).2 _ (fAt_mem hlt)).1
          have HAB := Lib.hid (fun wx => above_any (fAt l k).p wx (by have := HPS.out; omega))
          have HIN := Lib.hid (inTo_succ (κ := κ) hlt)
          have HAH := Lib.hid (HT.out.ahead hlt)
          have HI0 : Hid (∃ x, x = inTo l κ k) := ⟨_, rfl⟩
          generalize inTo l κ k = B at *
          generalize upIs (fAt l k).p = I at *
          generalize upT (fAt l k).p = U at *
          generalize (fAt l k).p = P at *
          generalize (fAt l κ).p = PK at *
          go_wp2_with fail
          refine Calls.mono (HAB.out _) ?_
          rintro e wx ⟨rfl, rfl⟩
          go_upto_region 12 with (fail)
          go_cut [7] (fun s wz => s = .bool (inTo l κ (k + 1)) ∧ wz = wx)
          case first =>
            cases B with
            | true =>
              go_wp2_with fail
              go_meet
              exact ⟨by rw [HIN.out]; rfl, rfl⟩
            | false =>
              cases I with
              | false =>
                go_wp2_with fail
                go_meet
                exact ⟨by rw [HIN.out]; rfl, rfl⟩
              | true =>
                cases hc : (U.toList == PK.toList) with
                | true =>
                  have HIN2 : Hid (inTo l κ (k + 1) = true) := by show _ = _; rw [HIN.out, hc]; rfl
                  go_wp2_with fail
                  go_meet
                  exact ⟨by rw [HIN2.out], rfl⟩
                | false =>
                  have HIN2 : Hid (inTo l κ (k + 1) = false) := by show _ = _; rw [HIN.out, hc]; rfl
                  go_wp2_with fail
                  go_meet
                  exact ⟨by rw [HIN2.out], rfl⟩
          case rest =>
            obtain ⟨rfl, rfl⟩ := hcut
            clear HIN HI0 HAB d7
            cases I with
            | false =>
              go_wp2_with fail
              exact ⟨⟨k + 1, by omega, by go_num, rfl, by first | rfl | trivial⟩, by simp [intOf]; omega⟩
            | true =>
              replace HAH := Lib.hid (HAH.out rfl)
              go_wp2_with fail
              go_loopw [11, 12] (fun t i wr => ∃ j : Nat, j ≤ k ∧ i = .int .i64 j ∧ t = .bool (dirIn (l.take j) U) ∧ wc = wr) (fun _ i _ => k - (intOf i).toNat)
              case atStart => exact ⟨0, by omega, rfl, rfl, rfl⟩
              case round =>
                obtain ⟨j, hj, rfl, rfl, rfl⟩ := hrel
                by_cases hjl : j < k
                · have hj64 : (j : Int) < (k : Int) := by omega
                  have hj65 : (j : Int) < (l.length : Int) := by omega
                  have hj0 : (0 : Int) ≤ (j : Int) := by omega
                  obtain ⟨b8, o8, e8, _, f0, f1, _⟩ := file_cell H4.out (i := j) (by omega)
                  injection e8 with e8
                  injection e8 with e81 e82 _
                  subst e81 e82
                  have HDS := Lib.hid (dirIn_succ (l := l) (u := U) (k := j) (by omega))
                  generalize (fAt l j).p = P2 at *
                  generalize (fAt l j).d = D2 at *
                  generalize dirIn (l.take j) U = B2 at *
                  cases B2 with
                  | true =>
                    go_wp2_with fail
                    exact ⟨⟨j + 1, by omega, by go_num, by rw [HDS.out]; rfl, by first | rfl | trivial⟩, by simp [intOf]; omega⟩
                  | false =>
                    cases hc : (P2.toList == U.toList) with
                    | false =>
                      have HD2 : Hid (dirIn (l.take (j + 1)) U = false) := by show _ = _; rw [HDS.out, hc]; rfl
                      go_wp2_with fail
                      exact ⟨⟨j + 1, by omega, by go_num, by rw [HD2.out], by first | rfl | trivial⟩, by simp [intOf]; omega⟩
                    | true =>
                      have HD2 : Hid (dirIn (l.take (j + 1)) U = D2) := by show _ = _; rw [HDS.out, hc]; rfl
                      go_wp2_with fail
                      exact ⟨⟨j + 1, by omega, by go_num, by rw [HD2.out], by first | rfl | trivial⟩, by simp [intOf]; omega⟩
                · obtain rfl : j = k := by omega
                  rw [HAH.out]
                  go_wp2_with fail
                  exact ⟨⟨j + 1, by omega, by go_num, rfl, by first | rfl | trivial⟩, by simp [intOf]; omega⟩
        · obtain rfl : k = l.length := by omega
          have HTL := Lib.hid (tree_less HT.out hκ)
          have HSM := Lib.hid (smallF_less HL.out κ)
          rw [inTo_all]
          rw [HLE.out] at HTL HSM
          generalize inF l κ = B at *
          go_wp2_with fail
          refine Calls.mono (tree_any _ le _ HLS.out HSM.out) ?_
          rintro e w5 ⟨rfl, hk5⟩
          rw [HTL.out]
          have HK5 := Lib.hid (HK4.out.trans hk5)
          clear hk5 HTL
          cases B <;>
          · go_wp2_with fail
            go_ret
            exact ⟨rfl, HK5.out⟩
end Go.Proofs.YtdpfanifagfciaaDoor
