/- The walk of sha.New. -/
import Derived.Test.YtcapalofocmmoaaShaHash
import Derived.Test.YtcapalofocmmoaaTail
namespace Go.Proofs.Ytcapalofocmmoaa
open Go.RowKit
/-- The numbers of the first k square roots, and noughts. -/
def nowTo (k : Nat) : List Nat := (List.range 8).map fun i => if i < k then SH.HL.getD i 0 else 0
theorem nowTo_length (k : Nat) : (nowTo k).length = 8 := by unfold nowTo; simp
theorem nowTo_succ {k : Nat} (h : k < 8) : nowTo (k + 1) = (nowTo k).set k (SH.HL.getD k 0) := by
  have : ∀ j < 8, nowTo (j + 1) = (nowTo j).set j (SH.HL.getD j 0) := by decide
  exact this k h
theorem nowTo_all : nowTo 8 = SH.HL := by decide
theorem map_getD (f : Nat → Nat) {l m : List Nat} (h : l.map f = m) {k : Nat} (hk : k < l.length) : f (l.getD k 0) = m.getD k 0 := by
  rw [← h, List.getD_eq_getElem?_getD, List.getD_eq_getElem?_getD, List.getElem?_map, List.getElem?_eq_getElem hk, Option.map_some, Option.getD_some, Option.getD_some]
theorem take_getD8 {k : Nat} (h : k < 8) : (SH.primesL.take 8).getD k 0 = SH.primesL.getD k 0 := by
  rw [List.getD_eq_getElem?_getD, List.getElem?_take, if_pos h, List.getD_eq_getElem?_getD]
theorem root2_at {k : Nat} (h : k < 8) : SH.rootL (SH.primesL.getD k 0) 2 = SH.HL.getD k 0 := by
  have := map_getD (fun p => SH.rootL p 2) SH.roots2 (k := k) (Nat.lt_of_lt_of_le h (by decide))
  rw [take_getD8 h] at this
  exact this
theorem root3_at {k : Nat} (h : k < 64) : SH.rootL (SH.primesL.getD k 0) 3 = SH.KL.getD k 0 :=
  map_getD (fun p => SH.rootL p 3) SH.roots3 (k := k) h
theorem KL_snoc {k : Nat} (h : k < 64) : SH.KL.take (k + 1) = SH.KL.take k ++ [SH.KL.getD k 0] := by
  rw [List.getD_eq_getElem?_getD, List.getElem?_eq_getElem (show k < SH.KL.length from h)]
  exact (List.take_append_getElem (show k < SH.KL.length from h)).symm
theorem prime_lt {k : Nat} (h : k < 64) : SH.primesL.getD k 0 < 1000 := by
  have : ∀ j < 64, SH.primesL.getD j 0 < 1000 := by decide
  exact this k h
/-- What New turns while it goes: the hash, and what it makes. -/
def NewT (w w1 : World) (b : Nat) : Prop := b = w.heap.size ∨ w1.heap.size ≤ b
theorem new_app {w w1 wx wa w6 : World} {n : List Nat} {vo : Value} {us : List Value} (hC : HashC wx.heap w.heap.size n (.slice none 0 0) 0 vo) (hK : Chg (NewT w w1) w1 wx) (hU : wx.ownsRow w1.heap.size 64 1 vo us.length us)
    (hs : w.heap.size < w1.heap.size) (ha : Keeps wx wa) (hg : Chg (fun k => vo.ownBlock = some k) wa w6) :
    Hid (HashC w6.heap w.heap.size n (.slice none 0 0) 0 vo) ∧ w6.cell? ⟨w.heap.size, 10, none⟩ = some vo ∧ w6.frozen? ⟨w.heap.size, 10, none⟩ = false ∧ Hid (Chg (NewT w w1) w1 w6) := by
  have h1 : HashC w6.heap w.heap.size n (.slice none 0 0) 0 vo := (hC.keeps ha).chg hg fun e => by have := (own_block hU _ e).1; omega
  exact ⟨h1, by rw [cell_of]; exact h1.roots, by rw [froz_of]; exact h1.free 10, (hK.trans (Kept.any ha)).trans (hg.mono fun b _ e => .inr (own_block hU b e).1)⟩
theorem own_slice {w : World} {base : Nat} {E : TypeId} {v : Value} {n : Nat} {us : List Value} (h : w.ownsRow base E 1 v n us) : ∃ p c, v = .slice p n c := by
  rcases h.2 with ⟨rfl, hn⟩ | ⟨g, cap, cur, rfl, _⟩
  · exact ⟨none, 0, by rw [hn]⟩
  · exact ⟨_, _, rfl⟩
theorem new_push {w w1 w6 : World} {n : List Nat} {vo v' : Value} {k x y : Nat} {us : List Value} (hC : HashC w6.heap w.heap.size n (.slice none 0 0) 0 vo) (hG : Chg (NewT w w1) w1 w6)
    (hO : w6.ownsRow w1.heap.size 64 1 v' (us.length + 1) (us ++ [.int .u32 (x : Int)])) (hs : w.heap.size < w1.heap.size) (hl : us.length = (SH.KL.take k).length)
    (h3 : ∀ (i : Nat) (_ : i < us.length) (_ : i < (SH.KL.take k).length), IsU32 us[i] (SH.KL.take k)[i]) (hx : x = y) (hS : SH.KL.take (k + 1) = SH.KL.take k ++ [y]) :
    HashC (w6.setCell ⟨w.heap.size, 10, none⟩ v').heap w.heap.size n (.slice none 0 0) 0 v' ∧ OwnSeq w1.heap.size 64 IsU32 (w6.setCell ⟨w.heap.size, 10, none⟩ v') v' (SH.KL.take (k + 1)) ∧
      Chg (NewT w w1) w1 (w6.setCell ⟨w.heap.size, 10, none⟩ v') := by
  subst hx
  refine ⟨hC.setRoots _, ?_, hG.setCell (fun _ => .inl rfl) _⟩
  have hc : Chg (fun b => b = w.heap.size) w6 (w6.setCell ⟨w.heap.size, 10, none⟩ v') := Chg.setCell (T := fun b => b = w.heap.size) (a := w6) (Chg.refl _ w6) (p := ⟨w.heap.size, 10, none⟩) (fun _ => rfl) _
  have h1 : OwnSeq w1.heap.size 64 IsU32 w6 v' (SH.KL.take k ++ [x]) := OwnSeq.push hl h3 hO (fun _ _ _ r => r) rfl
  rw [hS]
  exact h1.chg hc (fun b hb e => by have := (own_block hO b hb).1; omega) fun _ _ _ r => r
set_option maxRecDepth 100000 in
set_option maxHeartbeats 4000000 in
theorem hnew_any (w : World) :
    Calls Try.prog 15 #[] w fun e w' => e = .returned (.pointer (some ⟨w.heap.size, 0, none⟩)) ∧ (∃ vo, HashC w'.heap w.heap.size SH.HL (.slice none 0 0) 0 vo ∧ SeqIn (w.heap.size < ·) 64 IsU32 w'.heap vo SH.KL) ∧ Keeps w w' := by
  have hz : Hid (∀ w : World, HashC (w.alloc (.cells #[.int .u32 0, .int .u32 0, .int .u32 0, .int .u32 0, .int .u32 0, .int .u32 0, .int .u32 0, .int .u32 0, .slice none 0 0, .int .i64 0, .slice none 0 0] 68)).heap w.heap.size (nowTo 0) (.slice none 0 0) 0 (.slice none 0 0)) :=
    fun w => HashC.new w (nowTo 0) (nowTo_length 0) _ 0 _
  go_enter Try.func15, Try.ntmps15
  go_wp2_with fail
  refine Calls.mono (primes_any _) ?_
  rintro e w1 ⟨vp, rfl, hp, hk⟩
  have HC := Lib.hid ((hz.out w).keeps hk)
  have HP := Lib.hid (SeqIn.bound hp fun _ _ x => x)
  have HK := Lib.hid ((kal w _).trans hk)
  have hs1 : w.heap.size < w1.heap.size := by have := hk.size; simp at this; omega
  obtain ⟨p0, q0, e0⟩ := seq_shape (SeqIn.at_ hp)
  have e1 : vp = .slice p0 64 q0 := e0
  subst e1
  clear hz hp hk e0
  go_wp2_with fail
  go_loopw [8] (fun i wr => ∃ (k : Nat) (vo : Value), k ≤ 64 ∧ i = .int .i64 k ∧ Hid (HashC wr.heap w.heap.size (nowTo k) (.slice none 0 0) 0 vo) ∧ Hid (OwnSeq w1.heap.size 64 IsU32 wr vo (SH.KL.take k)) ∧ Hid (Chg (NewT w w1) w1 wr)) (fun i _ => 64 - (intOf i).toNat)
  case atStart => exact ⟨0, _, by omega, rfl, HC, OwnSeq.nil _ _ _ _, Chg.refl _ _⟩
  case round =>
    obtain ⟨k, vo, hk, rfl, hC, hO, hK1⟩ := hrel
    by_cases hlt : k < 64
    · have i1 : (k : Int) < 64 := by omega
      have i0 : (0 : Int) ≤ (k : Int) := by omega
      have HPR : SeqAt IsU64 wr.heap (.slice p0 64 q0) SH.primesL := SeqIn.at_ (SeqIn.chg (R' := IsU64) HP.out hK1.out (fun b _ hb _ ht => by
        have h1 : (w.alloc _).heap.size ≤ b ∧ b < w1.heap.size := hb
        have h2 : b = w.heap.size ∨ w1.heap.size ≤ b := ht
        simp at h1; omega) fun _ _ _ x => x)
      obtain ⟨b1, o1, u1, rfl, d1, r1⟩ := seqD HPR 0 (show k < SH.primesL.length from hlt)
      unfold IsU64 at r1
      subst r1
      have hpl := prime_lt hlt
      have HR3 := Lib.hid (root3_at hlt)
      have HS := Lib.hid (KL_snoc hlt)
      have hsz := hK1.out.size
      clear HPR
      by_cases h8 : k < 8
      rotate_left
      · have HCX : Hid (HashC wr.heap w.heap.size (nowTo (k + 1)) (.slice none 0 0) 0 vo) := by
          show HashC _ _ _ _ _ _
          have e : nowTo (k + 1) = nowTo k := by
            unfold nowTo
            refine List.map_congr_left fun i hi => ?_
            have := List.mem_range.1 hi
            rw [if_pos (by omega), if_pos (by omega)]
          rw [e]; exact hC.out
        have HOX := hO
        have HKX := hK1
        have g8 : ¬ (k : Int) < 8 := by omega
        obtain ⟨wx, rfl⟩ : ∃ wx, wx = wr := ⟨_, rfl⟩
        generalize SH.primesL.getD k 0 = p at *
        clear hC hO hK1 h8
        go_wp2_with fail
        obtain ⟨us, hu1, hu2, hu3⟩ := HOX.out
        have HU := Lib.hid hu1
        have HL2 := Lib.hid hu2
        have H3 := Lib.hid hu3
        have hul : us.length ≤ 64 := by rw [hu2, List.length_take]; omega
        have c10 : wx.cell? ⟨w.heap.size, 10, none⟩ = some vo := by rw [cell_of]; exact HCX.out.roots
        have f10 : wx.frozen? ⟨w.heap.size, 10, none⟩ = false := by rw [froz_of]; exact HCX.out.free 10
        have hszx := HKX.out.size
        have cA : ∀ o : Obj, (wx.alloc o).cell? ⟨w.heap.size, 10, none⟩ = some vo := fun o => keeps_cell (kal wx o) c10
        clear hu1 hu2 hu3
        go_region_law (first | (refine step_app1 elU32 rfl (.tmp 26) (.tmp 29) rfl w1.heap.size vo us (by simp [Act.eval, Act.put]) (HU.out.alloc _) _ (.int .u32 (SH.rootL p 3 : Int)) (by simp [Act.eval, Act.put]; try rfl) ?_ rfl (by omega) ?_ ?_; (first | exact World.cell?_alloc_new _ _ _ _ | simp [go_sem]); (first | omega | (simp; omega)); intro v' w6 hown hchg; obtain ⟨hC6, c6, f6, HG6⟩ := new_app HCX.out HKX.out HU.out hs1 (Kept.alloc (w := _) (keeps_refl wx) (Nat.le_refl _) _) hchg; obtain ⟨pv, qv, rfl⟩ := own_slice hown; have HO6 := Lib.hid hown; clear hown hchg) | (go_simp; go_at_call 38; refine Calls.mono (root3_any p _ hpl) ?_; rintro e w' ⟨rfl, rfl⟩))
        all_goals
          have HF := Lib.hid (new_push hC6.out HG6.out HO6.out hs1 HL2.out H3.out HR3.out HS.out)
          clear hC6 c6 f6 HG6 HO6 cA c10 f10 HU HL2 H3 HS HR3 HCX HOX HKX
          go_wp2
          exact ⟨⟨k + 1, _, by omega, by go_num, HF.out.1, HF.out.2.1, HF.out.2.2⟩, by simp [intOf]; omega⟩
      · have g8 : (k : Int) < 8 := by omega
        have HR2 := Lib.hid (root2_at h8)
        have ck : wr.cell? ⟨w.heap.size, k, none⟩ = some (.int .u32 ((nowTo k).getD k 0 : Int)) := by rw [cell_of]; exact hC.out.now k h8
        have fk : wr.frozen? ⟨w.heap.size, k, none⟩ = false := by rw [froz_of]; exact hC.out.free k
        generalize SH.primesL.getD k 0 = p at *
        go_wp2_with fail
        refine wp_region_tail (List.dropLast _) (List.getLast _ (List.cons_ne_nil _ _)) (List.dropLast_concat_getLast _).symm (by kernel_rfl) (by kernel_rfl) (by kernel_rfl) (by kernel_rfl) rfl (by kernel_rfl) ?_; simp only [List.dropLast_cons_cons, List.dropLast_singleton, List.getLast_cons_cons, List.getLast_singleton]; (repeat (go_big_quiet_step ((go_at_call 38; refine Calls.mono (root2_any p _ hpl) ?_; rintro e w' ⟨rfl, rfl⟩; exact ⟨rfl, _, rfl⟩)))); refine wpQuiet_nil ?_; intro _ hw1; obtain ⟨nq, hw2⟩ := hw1; subst hw2
        go_wp2_with fail
        obtain ⟨wx, hwx⟩ : ∃ wx, wx = (wr.drewN nq).setCell ⟨w.heap.size, k, none⟩ (.int .u32 (SH.rootL p 2 : Int)) := ⟨_, rfl⟩
        have hcx : Chg (NewT w w1) wr wx := by rw [hwx]; exact Chg.setCell (T := NewT w w1) (a := wr.drewN nq) (Chg.refl _ (wr.drewN nq)) (p := ⟨w.heap.size, k, none⟩) (fun _ => .inl rfl) _
        have hcy : Chg (fun b => b = w.heap.size) wr wx := by rw [hwx]; exact Chg.setCell (T := fun b => b = w.heap.size) (a := wr.drewN nq) (Chg.refl _ (wr.drewN nq)) (p := ⟨w.heap.size, k, none⟩) (fun _ => rfl) _
        have HCX : Hid (HashC wx.heap w.heap.size (nowTo (k + 1)) (.slice none 0 0) 0 vo) := by
          show HashC _ _ _ _ _ _
          rw [hwx, nowTo_succ h8, ← HR2.out]
          exact HashC.setNow (w := wr.drewN nq) hC.out h8 (nowTo_length k) _
        rw [← hwx]
        have HOX : Hid (OwnSeq w1.heap.size 64 IsU32 wx vo (SH.KL.take k)) := hO.out.chg hcy (fun b hb e => by
          obtain ⟨us, h1, _⟩ := hO.out
          have h2 := (own_block h1 b hb).1
          omega) fun _ _ _ x => x
        have HKX : Hid (Chg (NewT w w1) w1 wx) := hK1.out.trans hcx
        clear hwx hcx hcy ck fk d1 HR2 hC hO hK1 h8 g8
        obtain ⟨us, hu1, hu2, hu3⟩ := HOX.out
        have HU := Lib.hid hu1
        have HL2 := Lib.hid hu2
        have H3 := Lib.hid hu3
        have hul : us.length ≤ 64 := by rw [hu2, List.length_take]; omega
        have c10 : wx.cell? ⟨w.heap.size, 10, none⟩ = some vo := by rw [cell_of]; exact HCX.out.roots
        have f10 : wx.frozen? ⟨w.heap.size, 10, none⟩ = false := by rw [froz_of]; exact HCX.out.free 10
        have hszx := HKX.out.size
        have cA : ∀ o : Obj, (wx.alloc o).cell? ⟨w.heap.size, 10, none⟩ = some vo := fun o => keeps_cell (kal wx o) c10
        clear hu1 hu2 hu3
        go_region_law (first | (refine step_app1 elU32 rfl (.tmp 26) (.tmp 29) rfl w1.heap.size vo us (by simp [Act.eval, Act.put]) (HU.out.alloc _) _ (.int .u32 (SH.rootL p 3 : Int)) (by simp [Act.eval, Act.put]; try rfl) ?_ rfl (by omega) ?_ ?_; (first | exact World.cell?_alloc_new _ _ _ _ | simp [go_sem]); (first | omega | (simp; omega)); intro v' w6 hown hchg; obtain ⟨hC6, c6, f6, HG6⟩ := new_app HCX.out HKX.out HU.out hs1 (Kept.alloc (w := _) (keeps_refl wx) (Nat.le_refl _) _) hchg; obtain ⟨pv, qv, rfl⟩ := own_slice hown; have HO6 := Lib.hid hown; clear hown hchg) | (go_simp; go_at_call 38; refine Calls.mono (root3_any p _ hpl) ?_; rintro e w' ⟨rfl, rfl⟩))
        all_goals
          have HF := Lib.hid (new_push hC6.out HG6.out HO6.out hs1 HL2.out H3.out HR3.out HS.out)
          clear hC6 c6 f6 HG6 HO6 cA c10 f10 HU HL2 H3 HS HR3 HCX HOX HKX
          go_wp2
          exact ⟨⟨k + 1, _, by omega, by go_num, HF.out.1, HF.out.2.1, HF.out.2.2⟩, by simp [intOf]; omega⟩
    · obtain rfl : k = 64 := by omega
      have HCF : Hid (HashC wr.heap w.heap.size SH.HL (.slice none 0 0) 0 vo) := by
        show HashC _ _ _ _ _ _
        have e : nowTo 64 = SH.HL := by decide
        rw [← e]; exact hC.out
      have HOF : Hid (SeqIn (w.heap.size < ·) 64 IsU32 wr.heap vo SH.KL) := SeqIn.mono (hO.out.seq (by decide)) (fun b hb => Nat.lt_of_lt_of_le hs1 hb) fun _ _ x => x
      have HKF : Hid (Keeps w wr) := ((Kept.any (T := NewT w w1) HK.out).trans hK1.out).keeps fun b hb e => by
        have : b = w.heap.size ∨ w1.heap.size ≤ b := e
        omega
      clear hC hO hK1 HC HP HK
      go_wp2
      go_ret
      exact ⟨rfl, ⟨vo, HCF.out, HOF.out⟩, HKF.out⟩
end Go.Proofs.Ytcapalofocmmoaa
