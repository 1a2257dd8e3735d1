/- The walk of sha.New. -/
import Derived.Test.YteandjophamipaaShaP
import Derived.Test.YteandjophamipaaTail
import Derived.Test.YteandjophamipaaShaTake
import Derived.Test.YteandjophamipaaConv
import Derived.Test.YteandjophamipaaCopyN
import Derived.Deep.WholeRow
import Derived.Test.YteandjophamipaaBuild1
namespace Go.Proofs.Yteandjophamipaa
open Go.RowKit
/-- The numbers of the first k square roots, and noughts. -/
def nowTo (k : Nat) : List Nat := (List.range 8).map fun i => if i < k then SH.HL.getD i 0 else 0
theorem nowTo_length (k : Nat) : (nowTo k).length = 8 := by unfold nowTo; simp
theorem nowTo_succ {k : Nat} (h : k < 8) : nowTo (k + 1) = (nowTo k).set k (SH.HL.getD k 0) := by
  have : ∀ j < 8, nowTo (j + 1) = (nowTo j).set j (SH.HL.getD j 0) := by decide
  exact this k h
theorem nowTo_all : nowTo 8 = SH.HL := by decide
theorem map_getD (f : Nat → Nat) {l m : List Nat} (h : l.map f = m) {k : Nat} (hk : k < l.length) : f (l.getD k 0) = m.getD k 0 := by
  rw [← h, List.getD_eq_getElem?_getD, List.getD_eq_getElem?_getD, List.getElem?_map, List.getElem?_eq_getElem hk, Option.map_some, Option.getD_some, Option.getD_some]
theorem take_getD8 {k : Nat} (h : k < 8) : (SH.primesL.take 8).getD k 0 = SH.primesL.getD k 0 := by
  rw [List.getD_eq_getElem?_getD, List.getElem?_take, if_pos h, List.getD_eq_getElem?_getD]
theorem root2_at {k : Nat} (h : k < 8) : SH.rootL (SH.primesL.getD k 0) 2 = SH.HL.getD k 0 := by
  have := map_getD (fun p => SH.rootL p 2) SH.roots2 (k := k) (Nat.lt_of_lt_of_le h (by decide))
  rw [take_getD8 h] at this
  exact this
theorem root3_at {k : Nat} (h : k < 64) : SH.rootL (SH.primesL.getD k 0) 3 = SH.KL.getD k 0 :=
  map_getD (fun p => SH.rootL p 3) SH.roots3 (k := k) h
theorem KL_snoc {k : Nat} (h : k < 64) : SH.KL.take (k + 1) = SH.KL.take k ++ [SH.KL.getD k 0] := by
  rw [List.getD_eq_getElem?_getD, List.getElem?_eq_getElem (show k < SH.KL.length from h)]
  exact (List.take_append_getElem (show k < SH.KL.length from h)).symm
theorem prime_lt {k : Nat} (h : k < 64) : SH.primesL.getD k 0 < 1000 := by
  have : ∀ j < 64, SH.primesL.getD j 0 < 1000 := by decide
  exact this k h
/-- What New turns while it goes: the hash, and what it makes. -/
def NewT (w w1 : World) (b : Nat) : Prop := b = w.heap.size ∨ w1.heap.size ≤ b
theorem new_app {w w1 wx wa w6 : World} {n : List Nat} {vo : Value} {us : List Value} (hC : HashC wx.heap w.heap.size n (.slice none 0 0) 0 vo) (hK : Chg (NewT w w1) w1 wx) (hU : wx.ownsRow w1.heap.size 81 1 vo us.length us)
    (hs : w.heap.size < w1.heap.size) (ha : Keeps wx wa) (hg : Chg (fun k => vo.ownBlock = some k) wa w6) :
    Hid (HashC w6.heap w.heap.size n (.slice none 0 0) 0 vo) ∧ w6.cell? ⟨w.heap.size, 10, none⟩ = some vo ∧ w6.frozen? ⟨w.heap.size, 10, none⟩ = false ∧ Hid (Chg (NewT w w1) w1 w6) := by
  have h1 : HashC w6.heap w.heap.size n (.slice none 0 0) 0 vo := (hC.keeps ha).chg hg fun e => by have := (own_block hU _ e).1; omega
  exact ⟨h1, by rw [cell_of]; exact h1.roots, by rw [froz_of]; exact h1.free 10, (hK.trans (Kept.any ha)).trans (hg.mono fun b _ e => .inr (own_block hU b e).1)⟩
theorem own_slice {w : World} {base : Nat} {E : TypeId} {v : Value} {n : Nat} {us : List Value} (h : w.ownsRow base E 1 v n us) : ∃ p c, v = .slice p n c := by
  rcases h.2 with ⟨rfl, hn⟩ | ⟨g, cap, cur, rfl, _⟩
  · exact ⟨none, 0, by rw [hn]⟩
  · exact ⟨_, _, rfl⟩
theorem new_push {w w1 w6 : World} {n : List Nat} {vo v' : Value} {k x y : Nat} {us : List Value} (hC : HashC w6.heap w.heap.size n (.slice none 0 0) 0 vo) (hG : Chg (NewT w w1) w1 w6)
    (hO : w6.ownsRow w1.heap.size 81 1 v' (us.length + 1) (us ++ [.int .u32 (x : Int)])) (hs : w.heap.size < w1.heap.size) (hl : us.length = (SH.KL.take k).length)
    (h3 : ∀ (i : Nat) (_ : i < us.length) (_ : i < (SH.KL.take k).length), IsU32 us[i] (SH.KL.take k)[i]) (hx : x = y) (hS : SH.KL.take (k + 1) = SH.KL.take k ++ [y]) :
    HashC (w6.setCell ⟨w.heap.size, 10, none⟩ v').heap w.heap.size n (.slice none 0 0) 0 v' ∧ OwnSeq w1.heap.size 81 IsU32 (w6.setCell ⟨w.heap.size, 10, none⟩ v') v' (SH.KL.take (k + 1)) ∧
      Chg (NewT w w1) w1 (w6.setCell ⟨w.heap.size, 10, none⟩ v') := by
  subst hx
  refine ⟨hC.setRoots _, ?_, hG.setCell (fun _ => .inl rfl) _⟩
  have hc : Chg (fun b => b = w.heap.size) w6 (w6.setCell ⟨w.heap.size, 10, none⟩ v') := Chg.setCell (T := fun b => b = w.heap.size) (a := w6) (Chg.refl _ w6) (p := ⟨w.heap.size, 10, none⟩) (fun _ => rfl) _
  have h1 : OwnSeq w1.heap.size 81 IsU32 w6 v' (SH.KL.take k ++ [x]) := OwnSeq.push hl h3 hO (fun _ _ _ r => r) rfl
  rw [hS]
  exact h1.chg hc (fun b hb e => by have := (own_block hO b hb).1; omega) fun _ _ _ r => r
set_option maxRecDepth 100000 in
set_option maxHeartbeats 4000000 in
theorem hnew_any (w : World) :
    Calls Try.prog 49 #[] w fun e w' => e = .returned (.pointer (some ⟨w.heap.size, 0, none⟩)) ∧ (∃ vo, HashC w'.heap w.heap.size SH.HL (.slice none 0 0) 0 vo ∧ SeqIn (w.heap.size < ·) 81 IsU32 w'.heap vo SH.KL) ∧ Keeps w w' := by
  have hz : Hid (∀ w : World, HashC (w.alloc (.cells #[.int .u32 0, .int .u32 0, .int .u32 0, .int .u32 0, .int .u32 0, .int .u32 0, .int .u32 0, .int .u32 0, .slice none 0 0, .int .i64 0, .slice none 0 0] 85)).heap w.heap.size (nowTo 0) (.slice none 0 0) 0 (.slice none 0 0)) :=
    fun w => HashC.new w (nowTo 0) (nowTo_length 0) _ 0 _
  go_enter Try.func49, Try.ntmps49
  go_wp2_with fail
  refine Calls.mono (primes_any _) ?_
  rintro e w1 ⟨vp, rfl, hp, hk⟩
  have HC := Lib.hid ((hz.out w).keeps hk)
  have HP := Lib.hid (SeqIn.bound hp fun _ _ x => x)
  have HK := Lib.hid ((kal w _).trans hk)
  have hs1 : w.heap.size < w1.heap.size := by have := hk.size; simp at this; omega
  obtain ⟨p0, q0, e0⟩ := seq_shape (SeqIn.at_ hp)
  have e1 : vp = .slice p0 64 q0 := e0
  subst e1
  clear hz hp hk e0
  go_wp2_with fail
  go_loopw [8] (fun i wr => ∃ (k : Nat) (vo : Value), k ≤ 64 ∧ i = .int .i64 k ∧ Hid (HashC wr.heap w.heap.size (nowTo k) (.slice none 0 0) 0 vo) ∧ Hid (OwnSeq w1.heap.size 81 IsU32 wr vo (SH.KL.take k)) ∧ Hid (Chg (NewT w w1) w1 wr)) (fun i _ => 64 - (intOf i).toNat)
  case atStart => exact ⟨0, _, by omega, rfl, HC, OwnSeq.nil _ _ _ _, Chg.refl _ _⟩
  case round =>
    obtain ⟨k, vo, hk, rfl, hC, hO, hK1⟩ := hrel
    by_cases hlt : k < 64
    · have i1 : (k : Int) < 64 := by omega
      have i0 : (0 : Int) ≤ (k : Int) := by omega
      have HPR : SeqAt IsU64 wr.heap (.slice p0 64 q0) SH.primesL := SeqIn.at_ (SeqIn.chg (R' := IsU64) HP.out hK1.out (fun b _ hb _ ht => by
        have h1 : (w.alloc _).heap.size ≤ b ∧ b < w1.heap.size := hb
        have h2 : b = w.heap.size ∨ w1.heap.size ≤ b := ht
        simp at h1; omega) fun _ _ _ x => x)
      obtain ⟨b1, o1, u1, rfl, d1, r1⟩ := seqD HPR 0 (show k < SH.primesL.length from hlt)
      unfold IsU64 at r1
      subst r1
      have hpl := prime_lt hlt
      have HR3 := Lib.hid (root3_at hlt)
      have HS := Lib.hid (KL_snoc hlt)
      have hsz := hK1.out.size
      clear HPR
      by_cases h8 : k < 8
      rotate_left
      · have HCX : Hid (HashC wr.heap w.heap.size (nowTo (k + 1)) (.slice none 0 0) 0 vo) := by
          show HashC _ _ _ _ _ _
          have e : nowTo (k + 1) = nowTo k := by
            unfold nowTo
            refine List.map_congr_left fun i hi => ?_
            have := List.mem_range.1 hi
            rw [if_pos (by omega), if_pos (by omega)]
          rw [e]; exact hC.out
        have HOX := hO
        have HKX := hK1
        have g8 : ¬ (k : Int) < 8 := by omega
        obtain ⟨wx, rfl⟩ : ∃ wx, wx = wr := ⟨_, rfl⟩
        generalize SH.primesL.getD k 0 = p at *
        clear hC hO hK1 h8
        go_wp2_with fail
        obtain ⟨us, hu1, hu2, hu3⟩ := HOX.out
        have HU := Lib.hid hu1
        have HL2 := Lib.hid hu2
        have H3 := Lib.hid hu3
        have hul : us.length ≤ 64 := by rw [hu2, List.length_take]; omega
        have c10 : wx.cell? ⟨w.heap.size, 10, none⟩ = some vo := by rw [cell_of]; exact HCX.out.roots
        have f10 : wx.frozen? ⟨w.heap.size, 10, none⟩ = false := by rw [froz_of]; exact HCX.out.free 10
        have hszx := HKX.out.size
        have cA : ∀ o : Obj, (wx.alloc o).cell? ⟨w.heap.size, 10, none⟩ = some vo := fun o => keeps_cell (kal wx o) c10
        clear hu1 hu2 hu3
        go_region_law (first | (refine step_app1 elU32 rfl (.tmp 26) (.tmp 29) rfl w1.heap.size vo us (by simp [Act.eval]) (HU.out.alloc _) _ (.int .u32 (SH.rootL p 3 : Int)) (by simp [Act.eval]; try rfl) ?_ rfl (by omega) ?_ ?_; (first | exact World.cell?_alloc_new _ _ _ _ | simp [go_sem]); (first | omega | (simp; omega)); intro v' w6 hown hchg; obtain ⟨hC6, c6, f6, HG6⟩ := new_app HCX.out HKX.out HU.out hs1 (Kept.alloc (w := _) (keeps_refl wx) (Nat.le_refl _) _) hchg; obtain ⟨pv, qv, rfl⟩ := own_slice hown; have HO6 := Lib.hid hown; clear hown hchg) | (go_simp; go_at_call 59; refine Calls.mono (root3_any p _ hpl) ?_; rintro e w' ⟨rfl, rfl⟩))
        all_goals
          have HF := Lib.hid (new_push hC6.out HG6.out HO6.out hs1 HL2.out H3.out HR3.out HS.out)
          clear hC6 c6 f6 HG6 HO6 cA c10 f10 HU HL2 H3 HS HR3 HCX HOX HKX
          go_wp2
          exact ⟨⟨k + 1, _, by omega, by go_num, HF.out.1, HF.out.2.1, HF.out.2.2⟩, by simp [intOf]; omega⟩
      · have g8 : (k : Int) < 8 := by omega
        have HR2 := Lib.hid (root2_at h8)
        have ck : wr.cell? ⟨w.heap.size, k, none⟩ = some (.int .u32 ((nowTo k).getD k 0 : Int)) := by rw [cell_of]; exact hC.out.now k h8
        have fk : wr.frozen? ⟨w.heap.size, k, none⟩ = false := by rw [froz_of]; exact hC.out.free k
        generalize SH.primesL.getD k 0 = p at *
        go_wp2_with fail
        refine wp_region_tail (List.dropLast _) (List.getLast _ (List.cons_ne_nil _ _)) (List.dropLast_concat_getLast _).symm (by kernel_rfl) (by kernel_rfl) (by kernel_rfl) (by kernel_rfl) rfl (by kernel_rfl) ?_; simp only [List.dropLast_cons_cons, List.dropLast_singleton, List.getLast_cons_cons, List.getLast_singleton]; (repeat (go_big_quiet_step ((go_at_call 59; refine Calls.mono (root2_any p _ hpl) ?_; rintro e w' ⟨rfl, rfl⟩; exact ⟨rfl, _, rfl⟩)))); refine wpQuiet_nil ?_; intro _ hw1; obtain ⟨nq, hw2⟩ := hw1; subst hw2
        go_wp2_with fail
        obtain ⟨wx, hwx⟩ : ∃ wx, wx = (wr.drewN nq).setCell ⟨w.heap.size, k, none⟩ (.int .u32 (SH.rootL p 2 : Int)) := ⟨_, rfl⟩
        have hcx : Chg (NewT w w1) wr wx := by rw [hwx]; exact Chg.setCell (T := NewT w w1) (a := wr.drewN nq) (Chg.refl _ (wr.drewN nq)) (p := ⟨w.heap.size, k, none⟩) (fun _ => .inl rfl) _
        have hcy : Chg (fun b => b = w.heap.size) wr wx := by rw [hwx]; exact Chg.setCell (T := fun b => b = w.heap.size) (a := wr.drewN nq) (Chg.refl _ (wr.drewN nq)) (p := ⟨w.heap.size, k, none⟩) (fun _ => rfl) _
        have HCX : Hid (HashC wx.heap w.heap.size (nowTo (k + 1)) (.slice none 0 0) 0 vo) := by
          show HashC _ _ _ _ _ _
          rw [hwx, nowTo_succ h8, ← HR2.out]
          exact HashC.setNow (w := wr.drewN nq) hC.out h8 (nowTo_length k) _
        rw [← hwx]
        have HOX : Hid (OwnSeq w1.heap.size 81 IsU32 wx vo (SH.KL.take k)) := hO.out.chg hcy (fun b hb e => by
          obtain ⟨us, h1, _⟩ := hO.out
          have h2 := (own_block h1 b hb).1
          omega) fun _ _ _ x => x
        have HKX : Hid (Chg (NewT w w1) w1 wx) := hK1.out.trans hcx
        clear hwx hcx hcy ck fk d1 HR2 hC hO hK1 h8 g8
        obtain ⟨us, hu1, hu2, hu3⟩ := HOX.out
        have HU := Lib.hid hu1
        have HL2 := Lib.hid hu2
        have H3 := Lib.hid hu3
        have hul : us.length ≤ 64 := by rw [hu2, List.length_take]; omega
        have c10 : wx.cell? ⟨w.heap.size, 10, none⟩ = some vo := by rw [cell_of]; exact HCX.out.roots
        have f10 : wx.frozen? ⟨w.heap.size, 10, none⟩ = false := by rw [froz_of]; exact HCX.out.free 10
        have hszx := HKX.out.size
        have cA : ∀ o : Obj, (wx.alloc o).cell? ⟨w.heap.size, 10, none⟩ = some vo := fun o => keeps_cell (kal wx o) c10
        clear hu1 hu2 hu3
        go_region_law (first | (refine step_app1 elU32 rfl (.tmp 26) (.tmp 29) rfl w1.heap.size vo us (by simp [Act.eval]) (HU.out.alloc _) _ (.int .u32 (SH.rootL p 3 : Int)) (by simp [Act.eval]; try rfl) ?_ rfl (by omega) ?_ ?_; (first | exact World.cell?_alloc_new _ _ _ _ | simp [go_sem]); (first | omega | (simp; omega)); intro v' w6 hown hchg; obtain ⟨hC6, c6, f6, HG6⟩ := new_app HCX.out HKX.out HU.out hs1 (Kept.alloc (w := _) (keeps_refl wx) (Nat.le_refl _) _) hchg; obtain ⟨pv, qv, rfl⟩ := own_slice hown; have HO6 := Lib.hid hown; clear hown hchg) | (go_simp; go_at_call 59; refine Calls.mono (root3_any p _ hpl) ?_; rintro e w' ⟨rfl, rfl⟩))
        all_goals
          have HF := Lib.hid (new_push hC6.out HG6.out HO6.out hs1 HL2.out H3.out HR3.out HS.out)
          clear hC6 c6 f6 HG6 HO6 cA c10 f10 HU HL2 H3 HS HR3 HCX HOX HKX
          go_wp2
          exact ⟨⟨k + 1, _, by omega, by go_num, HF.out.1, HF.out.2.1, HF.out.2.2⟩, by simp [intOf]; omega⟩
    · obtain rfl : k = 64 := by omega
      have HCF : Hid (HashC wr.heap w.heap.size SH.HL (.slice none 0 0) 0 vo) := by
        show HashC _ _ _ _ _ _
        have e : nowTo 64 = SH.HL := by decide
        rw [← e]; exact hC.out
      have HOF : Hid (SeqIn (w.heap.size < ·) 81 IsU32 wr.heap vo SH.KL) := SeqIn.mono (hO.out.seq (by decide)) (fun b hb => Nat.lt_of_lt_of_le hs1 hb) fun _ _ x => x
      have HKF : Hid (Keeps w wr) := ((Kept.any (T := NewT w w1) HK.out).trans hK1.out).keeps fun b hb e => by
        have : b = w.heap.size ∨ w1.heap.size ≤ b := e
        omega
      clear hC hO hK1 HC HP HK
      go_wp2
      go_ret
      exact ⟨rfl, ⟨vo, HCF.out, HOF.out⟩, HKF.out⟩
end Go.Proofs.Yteandjophamipaa
/- The walks of the methods of sha.Hash. -/
namespace Go.Proofs.Yteandjophamipaa
open Go.RowKit
/-- Block b is a hash of these bytes. -/
def HashM (w : World) (b : Nat) (l : List UInt8) : Prop := HashR w b (SH.fed l) (SH.left l) l.length
theorem HashR.typ {w : World} {b : Nat} {n : List Nat} {r : List UInt8} {t : Nat} (h : HashR w b n r t) : typH w.heap b = some 85 := let ⟨_, _, _, _, h1, _⟩ := h; h1.typ
theorem HashR.lt {w : World} {b : Nat} {n : List Nat} {r : List UInt8} {t : Nat} (h : HashR w b n r t) : b < w.heap.size := typH_lt h.typ
theorem HashR.chg {T : Nat → Prop} {w w' : World} {b : Nat} {n : List Nat} {r : List UInt8} {t : Nat} (h : HashR w b n r t) (k : Chg T w w') (hb : ¬ T b) (h8 : ∀ x, T x → typH w.heap x ≠ some 5) (h32 : ∀ x, T x → typH w.heap x ≠ some 81) : HashR w' b n r t :=
  let ⟨vr, br, or, qr, h1, h2, h3, h4, h5⟩ := h
  ⟨vr, br, or, qr, h1.chg k hb, h2.chg k h8, h3, h4.chg k h32, h5⟩
theorem HashR.keeps {w w' : World} {b : Nat} {n : List Nat} {r : List UInt8} {t : Nat} (h : HashR w b n r t) (k : Keeps w w') : HashR w' b n r t := h.chg (T := fun _ => False) (Kept.any k) (fun x => x) (fun _ x => x.elim) fun _ x => x.elim
/-- Another hash has turned. -/
theorem HashR.other {w w' : World} {b c : Nat} {n : List Nat} {r : List UInt8} {t : Nat} (h : HashR w b n r t) (k : Chg (fun x => x = c) w w') (hc : typH w.heap c = some 85) (hne : b ≠ c) : HashR w' b n r t :=
  h.chg k hne (hash_not hc (by decide)) (hash_not hc (by decide))
theorem HashR.setTot {w : World} {b : Nat} {n : List Nat} {r : List UInt8} {t : Nat} (h : HashR w b n r t) (t' : Nat) : HashR (w.setCell ⟨b, 9, none⟩ (.int .i64 (t' : Int))) b n r t' := by
  obtain ⟨vr, br, or, qr, h1, h2, h3, h4, h5⟩ := h
  have k : Chg (fun x => x = b) w (w.setCell ⟨b, 9, none⟩ (.int .i64 (t' : Int))) := Chg.setCell (T := fun x => x = b) (a := w) (Chg.refl _ w) (p := ⟨b, 9, none⟩) (fun _ => rfl) _
  exact ⟨vr, br, or, qr, h1.setTot t', h2.chg k (hash_not h1.typ (by decide)), h3, h4.chg k (hash_not h1.typ (by decide)), h5⟩
theorem HashM.keeps {w w' : World} {b : Nat} {l : List UInt8} (h : HashM w b l) (k : Keeps w w') : HashM w' b l := HashR.keeps h k
theorem HashM.other {w w' : World} {b c : Nat} {l : List UInt8} (h : HashM w b l) (k : Chg (fun x => x = c) w w') (hc : typH w.heap c = some 85) (hne : b ≠ c) : HashM w' b l := HashR.other h k hc hne
theorem HashM.typ {w : World} {b : Nat} {l : List UInt8} (h : HashM w b l) : typH w.heap b = some 85 := HashR.typ h
theorem HashM.tot {w : World} {b : Nat} {l : List UInt8} (h : HashM w b l) : w.cell? ⟨b, 9, none⟩ = some (.int .i64 (l.length : Int)) ∧ w.frozen? ⟨b, 9, none⟩ = false := by
  obtain ⟨vr, br, or, qr, h1, _⟩ := h
  exact ⟨by rw [cell_of]; exact h1.tot, by rw [froz_of]; exact h1.free 9⟩
theorem take_fed {w' : World} {b : Nat} {l m : List UInt8} {t : Nat} (h : HashR w' b (SH.blk ((SH.left l ++ m).length / 64) (SH.fed l) (SH.left l ++ m)) ((SH.left l ++ m).drop (64 * ((SH.left l ++ m).length / 64))) t) : HashR w' b (SH.fed (l ++ m)) (SH.left (l ++ m)) t := by
  rw [SH.fed_append, SH.left_append']; exact h
theorem hadd_nil (s : ByteArray) (w : World) : Calls Try.prog 50 #[.pointer none, .string s] w fun e w' => e = .returned (.int .i64 2) ∧ w = w' := by
  go_enter Try.func50, Try.ntmps50
  go_wp2
  go_ret
  exact ⟨rfl, rfl⟩
set_option maxRecDepth 100000 in
set_option maxHeartbeats 4000000 in
theorem hadd_any (b : Nat) (l : List UInt8) (s : ByteArray) (w : World) (h : HashM w b l) (hlen : l.length + s.size ≤ 140737488355328) :
    Calls Try.prog 50 #[.pointer (some ⟨b, 0, none⟩), .string s] w fun e w' => e = .returned (.int .i64 0) ∧ HashM w' b (l ++ s.data.toList) ∧ Chg (fun x => x = b) w w' := by
  obtain ⟨c9, f9⟩ := h.tot
  have H := Lib.hid h
  have HT1 := Lib.hid (HashR.setTot h (l.length + s.size))
  clear h
  go_enter Try.func50, Try.ntmps50
  have hE : Hid ((l.length : Int) + (s.size : Int) = ((l.length + s.size : Nat) : Int)) := by show _ = _; omega
  go_wp2_with (refine wp_bytes rfl 9 56 (.tmp 17) rfl s rfl Try.underlying9 Try.underlying56 Try.underlying5 (by omega) ?_; intro c w2 hc hrow hk2)
  rw [hE.out] at hk2
  have HR2 := Lib.hid (SeqIn.at_ hrow)
  have HH2 := Lib.hid (HT1.out.keeps hk2)
  have HC1 : Hid (Chg (fun x => x = b) w w2) := (Chg.setCell (T := fun x => x = b) (a := w) (Chg.refl _ w) (p := ⟨b, 9, none⟩) (fun _ => rfl) _).trans (Kept.any hk2)
  have hsz : (SH.left l).length + s.data.toList.length ≤ 140737488355328 := by rw [SH.left_length, data_size]; omega
  rw [World.size_setCell] at HR2
  clear hk2 hrow
  refine Calls.mono (take_any b (SH.fed l) (SH.left l) s.data.toList (l.length + s.size) _ w2 HH2.out HR2.out hsz) ?_
  rintro e w3 ⟨rfl, h3, k3⟩
  have HH3 := Lib.hid h3
  have HC3 := Lib.hid (HC1.out.trans k3)
  clear h3 k3
  go_wp2
  go_ret
  have e1 : l.length + s.size = (l ++ s.data.toList).length := by rw [List.length_append, data_size]
  refine ⟨rfl, ?_, HC3.out⟩
  have h4 := take_fed (w' := w3) HH3.out
  rw [e1] at h4
  exact h4
theorem hcopy_nil (w : World) : Calls Try.prog 61 #[.pointer none] w fun e w' => e = .returned (.pointer none) ∧ w = w' := by
  go_enter Try.func61, Try.ntmps61
  go_wp2
  go_ret
  exact ⟨rfl, rfl⟩
theorem HashC.all {w : World} {b : Nat} {n : List Nat} {vr : Value} {tot : Nat} {vo : Value} (c : HashC w.heap b n vr tot vo) (hn : n.length = 8) : w.rangeAt b 0 (hashL n vr tot vo) := fun j v hj => by
  rw [Nat.zero_add, cell_of]
  unfold hashL at hj
  have hl : (n.map fun (x : Nat) => Value.int .u32 (x : Int)).length = 8 := by rw [List.length_map, hn]
  rcases Nat.lt_or_ge j 8 with h | h
  · rw [List.getElem?_append_left (by omega), List.getElem?_map, List.getElem?_eq_getElem (by omega)] at hj
    rw [c.now j h, ← hj, List.getD_eq_getElem?_getD, List.getElem?_eq_getElem (by omega)]; rfl
  · rw [List.getElem?_append_right (by omega), hl] at hj
    match j, h with
    | 8, _ => rw [c.rest]; exact hj
    | 9, _ => rw [c.tot]; exact hj
    | 10, _ => rw [c.roots]; exact hj
    | j + 11, _ => simp at hj
theorem hashL_length {n : List Nat} (hn : n.length = 8) (vr : Value) (tot : Nat) (vo : Value) : (hashL n vr tot vo).length = 11 := by unfold hashL; simp [hn]
theorem hashL_one (n : List Nat) (p : Option Addr) (c d : Nat) (tot : Nat) (p' : Option Addr) (c' d' : Nat) : (⟨hashL n (.slice p c d) tot (.slice p' c' d')⟩ : Array Value).all (·.oneCell') = true :=
  Array.all_eq_true_iff_forall_mem.2 fun v hv => by
    have hv' : v ∈ hashL n (.slice p c d) tot (.slice p' c' d') := by simpa using hv
    unfold hashL at hv'
    rw [List.mem_append] at hv'
    rcases hv' with h | h
    · obtain ⟨x, _, rfl⟩ := List.mem_map.1 h; rfl
    · simp only [List.mem_cons, List.not_mem_nil, or_false] at h
      rcases h with rfl | rfl | rfl <;> rfl
set_option maxRecDepth 100000 in
set_option maxHeartbeats 4000000 in
theorem hcopy_any (b : Nat) (l : List UInt8) (w : World) (h : HashM w b l) :
    Calls Try.prog 61 #[.pointer (some ⟨b, 0, none⟩)] w fun e w' => e = .returned (.pointer (some ⟨w.heap.size, 0, none⟩)) ∧ HashM w' w.heap.size l ∧ Keeps w w' := by
  have hb := HashR.lt h
  obtain ⟨vr, br, or, qr, h1, h2, h3, h4, h5⟩ := h
  obtain ⟨ar, cr, rfl⟩ := seq_shape h2.1
  have hle : (SH.left l).length < 64 := by rw [SH.left_length]; omega
  have HC := Lib.hid h1
  have HR := Lib.hid h2
  have HK := Lib.hid h4
  have HOK := Lib.hid h5
  have HS11 : Hid ((Try.prog.info? 85).map (·.size) = some (hashL (SH.fed l) (.slice ar (SH.left l).length cr) l.length (.slice (some ⟨br, or, none⟩) 64 qr)).length) := by show _ = _; rw [hashL_length h5.1]; kernel_rfl
  clear h1 h2 h3 h4 h5
  generalize hr : SH.left l = r at *
  have HRL := Lib.hid hr
  clear hr
  obtain ⟨w1, hw1⟩ : ∃ w1, w1 = w.alloc (.cells ⟨hashL (SH.fed l) (.slice ar r.length cr) l.length (.slice (some ⟨br, or, none⟩) 64 qr)⟩ 85) := ⟨_, rfl⟩
  have HC1 : Hid (HashC w1.heap w.heap.size (SH.fed l) (.slice ar r.length cr) l.length (.slice (some ⟨br, or, none⟩) 64 qr)) := by
    rw [hw1]; exact HashC.new w _ HOK.out.1 _ _ _
  have HW1 := Lib.hid hw1
  have hk1 : Keeps w w1 := by rw [hw1]; exact kal _ _
  have hs1 : w1.heap.size = w.heap.size + 1 := by rw [hw1]; simp
  clear hw1
  go_enter Try.func61, Try.ntmps61
  have c8 : w1.cell? ⟨b, 8, none⟩ = some (.slice ar r.length cr) := by rw [cell_of]; exact (HC.out.keeps hk1).rest
  have d8 : w1.cell? ⟨w.heap.size, 8, none⟩ = some (.slice ar r.length cr) := by rw [cell_of]; exact HC1.out.rest
  have e8 : w1.frozen? ⟨w.heap.size, 8, none⟩ = false := by rw [froz_of]; exact HC1.out.free 8
  have hmk : ∀ wx : World, (Instr.makeSlice 56 (.int .i64 (r.length : Int)) (.int .i64 (r.length : Int))).run Try.prog wx = .ok (.slice (some ⟨wx.heap.size, 0, none⟩) r.length r.length) (wx.alloc (.cells (reps r.length (.int .u8 0)) 5)) := fun wx =>
    run_mk 56 5 1 (.int .u8 0) Try.underlying56 (by kernel_rfl) rfl r.length (by omega) (by omega) wx
  have dA : ∀ o : Obj, (w1.alloc o).cell? ⟨w.heap.size, 8, none⟩ = some (.slice ar r.length cr) := fun o => keeps_cell (kal w1 o) d8
  have eA : ∀ o : Obj, (w1.alloc o).frozen? ⟨w.heap.size, 8, none⟩ = false := fun o => keeps_froz (kal w1 o) d8 e8
  have hlt1 : w.heap.size < w1.heap.size := by omega
  have HK1 := Lib.hid hk1
  have S1 := Lib.hid hs1
  clear hk1 hs1
  go_wp2_with (first
    | (refine wpList_load_mid rfl 85 (.tmp 7) rfl b 0 rfl _ _ (HC.out.all HOK.out.1) Try.underlying85 rfl HS11.out ?_)
    | (refine wpList_store_row rfl 85 (.tmp 3) (.tmp 8) rfl w.heap.size _ rfl rfl 85 _ (heap_alloc_last w _) HS11.out (by show _ = (hashL _ _ _ _).length; rw [hashL_length HOK.out.1]; rfl) (hashL_one _ _ _ _ _ _ _ _) ?_; rw [World.setRow_alloc_new]; rw [← HW1.out]))
  obtain ⟨w2, hw2⟩ : ∃ w2, w2 = (w1.setCell ⟨w.heap.size, 8, none⟩ (.slice (some ⟨w1.heap.size, 0, none⟩) r.length r.length)).alloc (.cells (reps r.length (.int .u8 0)) 5) := ⟨_, rfl⟩
  rw [← hw2]
  have HC2 : Hid (HashC w2.heap w.heap.size (SH.fed l) (.slice (some ⟨w1.heap.size, 0, none⟩) r.length r.length) l.length (.slice (some ⟨br, or, none⟩) 64 qr)) := by
    show HashC _ _ _ _ _ _
    rw [hw2]; exact (HC1.out.setRest _).al _
  have HG2 : Hid (w2.heap[w1.heap.size]? = some (.cells (reps r.length (.int .u8 0)) 5 (0, 0))) := by
    show _ = _
    have h9 := heap_alloc_last (w1.setCell ⟨w.heap.size, 8, none⟩ (.slice (some ⟨w1.heap.size, 0, none⟩) r.length r.length)) (.cells (reps r.length (.int .u8 0)) 5)
    rw [World.size_setCell] at h9
    rw [hw2]; exact h9
  have HX2 : Hid (Chg (fun x => x = w.heap.size) w1 w2) := by rw [hw2]; exact (Chg.setCell (T := fun x => x = w.heap.size) (Chg.refl _ w1) (p := ⟨w.heap.size, 8, none⟩) (fun _ => rfl) _).alloc _
  have HK2 : Hid (Keeps w w2) := ((Kept.any (T := fun x => x = w.heap.size) HK1.out).trans HX2.out).keeps fun x hx e => by omega
  have HR2 := Lib.hid (HR.out.keeps HK2.out)
  have c82 : w2.cell? ⟨b, 8, none⟩ = some (.slice ar r.length cr) := by rw [cell_of]; exact (HC.out.keeps HK2.out).rest
  have d82 : w2.cell? ⟨w.heap.size, 8, none⟩ = some (.slice (some ⟨w1.heap.size, 0, none⟩) r.length r.length) := by rw [cell_of]; exact HC2.out.rest
  clear hw2 dA eA d8 e8 c8 hmk
  go_wp2_with fail
  refine wp_region_tail (List.dropLast _) (List.getLast _ (List.cons_ne_nil _ _)) (List.dropLast_concat_getLast _).symm (by kernel_rfl) (by kernel_rfl) (by kernel_rfl) (by kernel_rfl) rfl (by kernel_rfl) ?_; simp only [List.dropLast_cons_cons, List.dropLast_singleton, List.getLast_cons_cons, List.getLast_singleton]; (repeat (go_big_quiet_step (fail))); refine wpQuiet_nil ?_; intro _ hw1; obtain ⟨nq, hw2⟩ := hw1; subst hw2
  go_wp2_with (refine wp_copy_new elByte (by kernel_rfl) (R := IsByte) (fun u x h => by rw [h]; rfl) rfl (.tmp 17) (.tmp 21) rfl w1.heap.size r.length r.length rfl (.slice ar r.length cr) rfl r HR2.out.1 rfl _ HG2.out (reps_size _ _) ?_; intro w3 hc3 hs3)
  have HC3 : Hid (HashC w3.heap w.heap.size (SH.fed l) (.slice (some ⟨w1.heap.size, 0, none⟩) r.length r.length) l.length (.slice (some ⟨br, or, none⟩) 64 qr)) := HC2.out.chg hc3 (by omega)
  have HKF : Hid (Keeps w w3) := ((Kept.any (T := fun x => w.heap.size ≤ x) HK2.out).trans (hc3.mono fun x _ e => by show w.heap.size ≤ x; omega)).keeps fun x h1 h2 => by omega
  have HHF : Hid (HashM w3 w.heap.size l) := by
    show HashR _ _ _ _ _
    rw [HRL.out]
    refine ⟨_, br, or, qr, HC3.out, SeqIn.ty hs3, capOk_mk (Nat.le_refl _), ?_, HOK.out⟩
    exact (HK.out.keeps HK2.out).chg hc3 (hash_not (typH_of HG2.out) (by decide))
  clear hc3 hs3
  go_wp2
  go_ret
  exact ⟨rfl, HHF.out, HKF.out⟩
end Go.Proofs.Yteandjophamipaa
/- The walk of (*sha.Hash).Sum. -/
namespace Go.Proofs.Yteandjophamipaa
open Go.RowKit
theorem own_lit (w : World) (base : Nat) (e : TypeId) (hb : base ≤ w.heap.size) (cs : Array Value) (hc : cs.size ≤ maxLen) : (w.alloc (.cells cs e)).ownsRow base e 1 (.slice (some ⟨w.heap.size, 0, none⟩) cs.size cs.size) cs.size cs.toList :=
  ⟨by rw [Array.length_toList, Nat.mul_one], .inr ⟨w.heap.size, cs.size, cs, rfl, hb, by unfold World.alloc; simp, Nat.le_refl _, hc, by rw [Nat.mul_one], by rw [Nat.mul_one]; exact List.take_of_length_le (by rw [Array.length_toList]; exact Nat.le_refl _)⟩⟩
/-- The bytes behind the text, as far as they are told. -/
def endB (n j : Nat) : List UInt8 := [128] ++ List.replicate (SH.noughts n) 0 ++ (SH.be64 (8 * n)).take j
theorem endB_zero (n : Nat) : endB n 0 = [128] ++ List.replicate (SH.noughts n) 0 := by unfold endB; simp
theorem endB_all (n : Nat) : endB n 8 = SH.fill n := by unfold endB SH.fill; rw [List.take_of_length_le (by rw [SH.be64_length]; exact Nat.le_refl _)]
theorem endB_length (n j : Nat) : (endB n j).length ≤ 73 := by unfold endB; have := SH.noughts_lt n; simp [SH.be64_length]; omega
theorem endB_succ (n : Nat) {j : Nat} (h : j < 8) : endB n (j + 1) = endB n j ++ [(SH.be64 (8 * n)).getD j 0] := by
  unfold endB
  rw [List.append_assoc _ _ [_]]
  congr 1
  rw [List.getD_eq_getElem?_getD, List.getElem?_eq_getElem (by rw [SH.be64_length]; exact h)]
  exact (List.take_append_getElem (by rw [SH.be64_length]; exact h)).symm
theorem be64_at (n : Nat) {j : Nat} (h : j < 8) : ((SH.be64 n).getD (7 - j) 0).toNat = n / 2 ^ (8 * j) % 256 := by
  match j, h with
  | 0, _ => simp [SH.be64]
  | 1, _ => simp [SH.be64]
  | 2, _ => simp [SH.be64]
  | 3, _ => simp [SH.be64]
  | 4, _ => simp [SH.be64]
  | 5, _ => simp [SH.be64]
  | 6, _ => simp [SH.be64]
  | 7, _ => simp [SH.be64]
theorem four_at (n : Nat) {j : Nat} (h : j < 4) : ((SH.four n).getD (3 - j) 0).toNat = n / 2 ^ (8 * j) % 256 := by
  match j, h with
  | 0, _ => simp [SH.four]
  | 1, _ => simp [SH.four]
  | 2, _ => simp [SH.four]
  | 3, _ => simp [SH.four]
set_option maxRecDepth 100000 in
theorem index_arr (l : List Nat) (k : Nat) (hl : l.length = 8) (hk : k < 8) (w : World) : (Instr.index 82 (.agg (l.map fun (x : Nat) => Value.int .u32 (x : Int)).toArray) (.int .i64 (k : Int))).run Try.prog w = .ok (.int .u32 (l.getD k 0 : Int)) w := by
  have e : l = [l.getD 0 0, l.getD 1 0, l.getD 2 0, l.getD 3 0, l.getD 4 0, l.getD 5 0, l.getD 6 0, l.getD 7 0] := by
    match l, hl with
    | [a, b, c, d, e, f, g, h], _ => rfl
  generalize l.getD 0 0 = a at e
  generalize l.getD 1 0 = b at e
  generalize l.getD 2 0 = c at e
  generalize l.getD 3 0 = d at e
  generalize l.getD 4 0 = e5 at e
  generalize l.getD 5 0 = f at e
  generalize l.getD 6 0 = g at e
  generalize l.getD 7 0 = h at e
  subst e
  have hk8 : k = 0 ∨ k = 1 ∨ k = 2 ∨ k = 3 ∨ k = 4 ∨ k = 5 ∨ k = 6 ∨ k = 7 := by omega
  rcases hk8 with rfl | rfl | rfl | rfl | rfl | rfl | rfl | rfl <;> rfl
theorem four_take (x : Nat) {j : Nat} (h : j < 4) : (SH.four x).take (4 - j) = (SH.four x).take (4 - (j + 1)) ++ [(SH.four x).getD (3 - j) 0] := by
  match j, h with
  | 0, _ => rfl
  | 1, _ => rfl
  | 2, _ => rfl
  | 3, _ => rfl
theorem dig_succ (N : List Nat) (hl : N.length = 8) {k : Nat} (hk : k < 8) : SH.digest (N.take (k + 1)) = SH.digest (N.take k) ++ SH.four (N.getD k 0) := by
  unfold SH.digest
  rw [List.getD_eq_getElem?_getD, List.getElem?_eq_getElem (by omega), ← List.take_append_getElem (by omega), List.flatMap_append]
  simp
theorem dig_len (N : List Nat) (hl : N.length = 8) {k : Nat} (hk : k ≤ 8) : (SH.digest (N.take k)).length = 4 * k := by
  induction k with
  | zero => rfl
  | succ k ih => rw [dig_succ N hl (by omega), List.length_append, ih (by omega)]; show 4 * k + 4 = _; omega
set_option maxRecDepth 100000 in
set_option maxHeartbeats 4000000 in
theorem hsum_any (b : Nat) (l : List UInt8) (w : World) (h : HashM w b l) (hlen : l.length ≤ 70368744177664) :
    Calls Try.prog 51 #[.pointer (some ⟨b, 0, none⟩)] w fun e w' => e = .returned (.string (strB (SH.sumB l))) ∧ Keeps w w' := by
  have H := Lib.hid h
  have hb := HashR.lt h
  clear h
  go_enter Try.func51, Try.ntmps51
  go_wp2_with fail
  refine Calls.mono (hcopy_any b l w H.out) ?_
  rintro e w1 ⟨rfl, h1, k1⟩
  have H1 := Lib.hid h1
  have K1 := Lib.hid k1
  have HB1 := Lib.hid (H.out.keeps k1)
  have hs1 := k1.size
  have hc1 := HashR.lt h1
  clear h1 k1
  obtain ⟨m, hm64, HMQ, ar, cr, c8⟩ : ∃ m : Nat, m < 64 ∧ Hid (m = l.length % 64) ∧ ∃ ar cr, w1.cell? ⟨w.heap.size, 8, none⟩ = some (.slice ar m cr) := by
    obtain ⟨vr, br, or, qr, g1, g2, g3, g4, g5⟩ := H1.out
    obtain ⟨ar, cr, rfl⟩ := seq_shape g2.1
    exact ⟨(SH.left l).length, by rw [SH.left_length]; omega, SH.left_length l, ar, cr, by rw [cell_of]; exact g1.rest⟩
  have HN : Hid (SH.noughts l.length < 64) := SH.noughts_lt _
  go_wp2_with fail
  go_loopg [4] (SH.noughts l.length) (fun g v wr => ∃ k : Nat, Hid (g + k = SH.noughts l.length) ∧ Hid (OwnSeq w1.heap.size 5 IsByte wr v ([128] ++ List.replicate k 0)) ∧ Hid (Keeps w1 wr))
  case atStart => exact ⟨0, rfl, bytesV_seq (r := [128]) (own_lit w1 w1.heap.size 5 (Nat.le_refl _) #[.int .u8 128] (by unfold maxLen; simp)), kal _ _⟩
  case round =>
    obtain ⟨k, hg, hO, hK⟩ := hrel
    obtain ⟨us, hu1, hu2, hu3⟩ := hO.out
    have HU := Lib.hid hu1
    have HL2 := Lib.hid hu2
    have H3 := Lib.hid hu3
    have hul : us.length = k + 1 := by rw [hu2]; simp
    have HUL := Lib.hid hul
    have hle : us.length ≤ 64 := by have := hg.out; have := HN.out; omega
    have hpos : 1 ≤ us.length := by omega
    obtain ⟨pv, qv, rfl⟩ := own_slice hu1
    have c8r := keeps_cell hK.out c8
    have hszr := hK.out.size
    clear hu1 hu2 hu3 hul
    by_cases hlt : k < SH.noughts l.length
    · have g1 : (((m : Int) + (us.length : Int) + 8) % 64 != 0) = true := by
        rw [bne_iff_ne]
        have h1 := SH.noughts_first l.length k hlt
        have h2 := HUL.out
        have h3 := HMQ.out
        omega
      have HZ : Hid (gk - 1 + (k + 1) = SH.noughts l.length) := by show _ = _; have := hg.out; omega
      have HGK : Hid (gk - 1 < gk) := by show _ < _; have := hg.out; omega
      clear hlt hg
      go_wp2_with (at_builtin; refine wp_app1 elByte rfl _ _ rfl w1.heap.size _ us rfl (HU.out.alloc _) _ (.int .u8 0) rfl ?c1 rfl ?c2 ?c3 ?_)
      case c1 => exact World.cell?_alloc_new _ _ _ _
      case c2 => omega
      case c3 => simp; omega
      intro v' w6 hown hchg
      have HP : Hid (OwnSeq w1.heap.size 5 IsByte w6 v' ([128] ++ List.replicate (k + 1) 0)) := by
        show OwnSeq _ _ _ _ _ _
        rw [List.replicate_succ', ← List.append_assoc]
        exact OwnSeq.push (R := IsByte) HL2.out H3.out hown (fun _ _ _ x => x) rfl
      have HK6 : Hid (Keeps w1 w6) := hK.out.then (Chg.kept ((((Chg.refl _ wr).alloc _).trans hchg).mono (T' := fun b => w1.heap.size ≤ b) fun b _ hb => (own_block HU.out b hb).1) hszr) (Nat.le_refl _)
      clear hown hchg
      go_wp2_with fail
      go_roundg (gk - 1)
      case rel => exact ⟨k + 1, HZ, HP, HK6⟩
      case measure => exact HGK.out
    · have g1 : (((m : Int) + (us.length : Int) + 8) % 64 != 0) = false := by
        have h0 : k = SH.noughts l.length := by have := hg.out; omega
        have h1 := SH.noughts_ok l.length
        have h2 := HUL.out
        have h3 := HMQ.out
        rw [bne_eq_false_iff_eq]; omega
      have HO1 : Hid (OwnSeq w1.heap.size 5 IsByte wr (.slice pv us.length qv) (endB l.length 0)) := by
        have h0 : k = SH.noughts l.length := by have := hg.out; omega
        show OwnSeq _ _ _ _ _ _
        rw [endB_zero, ← h0]; exact hO.out
      clear hlt hg hO HU HL2 H3 HUL
      go_wp2_with fail
      clear g1
      generalize hn : l.length = n at *
      have HNL := Lib.hid hn
      clear hn
      go_loopw [4, 5] (fun v i wx => ∃ j : Nat, j ≤ 8 ∧ i = .int .i64 ((j : Int) - 1) ∧ Hid (OwnSeq w1.heap.size 5 IsByte wx v (endB n (8 - j))) ∧ Hid (Keeps w1 wx)) (fun _ i _ => (intOf i + 1).toNat)
      case atStart => exact ⟨8, by omega, rfl, HO1, hK⟩
      case round =>
        obtain ⟨j, hj, rfl, hO, hK2⟩ := hrel
        cases j with
        | succ j =>
          have e1 : ((j + 1 : Nat) : Int) - 1 = (j : Int) := by omega
          rw [e1]
          obtain ⟨us2, hu1, hu2, hu3⟩ := hO.out
          have HU := Lib.hid hu1
          have HL2 := Lib.hid hu2
          have H3 := Lib.hid hu3
          have hle2 : us2.length ≤ 73 := by rw [hu2]; exact endB_length n _
          obtain ⟨p2, q2, rfl⟩ := own_slice hu1
          have c9 : wr.cell? ⟨b, 9, none⟩ = some (.int .i64 (n : Int)) := by rw [← HNL.out]; exact keeps_cell hK2.out HB1.out.tot.1
          clear hu1 hu2 hu3 e1
          have HV : Hid ((n : Int) * 8 / 2 ^ (8 * j) % 256 = (((SH.be64 (8 * n)).getD (7 - j) 0).toNat : Int)) := by
            show _ = _
            rw [be64_at (8 * n) (by omega), Nat.mul_comm 8 n]
            simp
          have hszx := hK2.out.size
          go_wp2_with (at_builtin; refine wp_app1 elByte rfl _ _ rfl w1.heap.size _ us2 rfl (HU.out.alloc _) _ (.int .u8 ((n : Int) * 8 / 2 ^ (8 * j) % 256)) rfl ?d1 rfl ?d2 ?d3 ?_)
          case d1 => exact World.cell?_alloc_new _ _ _ _
          case d2 => omega
          case d3 => simp; omega
          intro v' w6 hown hchg
          have HP : Hid (OwnSeq w1.heap.size 5 IsByte w6 v' (endB n (8 - j))) := by
            show OwnSeq _ _ _ _ _ _
            have e2 : 8 - j = (8 - (j + 1)) + 1 := by omega
            rw [e2, endB_succ n (by omega)]
            exact OwnSeq.push (R := IsByte) HL2.out H3.out hown (fun _ _ _ x => x) (by show _ = _; rw [HV.out, show 7 - j = 8 - (j + 1) from by omega])
          have HK6 : Hid (Keeps w1 w6) := hK2.out.then (Chg.kept ((((Chg.refl _ wr).alloc _).trans hchg).mono (T' := fun b => w1.heap.size ≤ b) fun b _ hb => (own_block HU.out b hb).1) hszx) (Nat.le_refl _)
          clear hown hchg HU HL2 H3 HV
          go_wp2_with fail
          exact ⟨⟨j, by omega, rfl, HP, HK6⟩, by simp [intOf]⟩
        | zero =>
          have HOF : Hid (RowAt wr.heap u4 (SH.fill n)) := by
            show RowAt _ _ _
            have h0 := hO.out.seq (by have := endB_length n (8 - 0); omega)
            rw [← endB_all n]; exact SeqIn.at_ h0
          have HHR := Lib.hid (H1.out.keeps hK2.out)
          have hszr := hK2.out.size
          have hbd : (SH.left l).length + (SH.fill n).length ≤ 140737488355328 := by rw [SH.left_length, SH.fill_length]; have := HN.out; omega
          have HP1 : Hid (HashR wr w.heap.size (SH.fed l) (SH.left l) n) := by
            show HashR _ _ _ _ _
            rw [← HNL.out]; exact HHR.out
          have HKR := Lib.hid (K1.out.trans hK2.out)
          clear hO hK2 hK HO1 HHR H1 HB1 c8
          go_wp2_with fail
          refine Calls.mono (take_any w.heap.size (SH.fed l) (SH.left l) (SH.fill n) n _ wr HP1.out HOF.out hbd) ?_
          rintro e w5 ⟨rfl, h5, k5⟩
          have HF : Hid (HashR w5 w.heap.size (SH.fed (SH.padB l)) (SH.left (SH.padB l)) n) := by
            have := take_fed (w' := w5) h5
            show HashR _ _ _ _ _
            unfold SH.padB; rw [HNL.out]; exact this
          have HK5 : Hid (Keeps w w5) := ((Kept.any (T := fun x => x = w.heap.size) HKR.out).trans k5).keeps fun x h1 h2 => by omega
          have hz5 := HK5.out.size
          have hz6 := HashR.lt h5
          have HOK := Lib.hid (SH.ok_fed (SH.padB l))
          clear h5 k5
          obtain ⟨vr5, br5, or5, qr5, g5⟩ := HF.out
          have HC5 := Lib.hid g5.1
          clear g5
          have HS8 : Hid ((Try.prog.info? 82).map (·.size) = some ((SH.fed (SH.padB l)).map fun (x : Nat) => Value.int .u32 (x : Int)).length) := by show _ = _; rw [List.length_map, HOK.out.1]; kernel_rfl
          have HB6 : Hid (Bld w5.heap.size w5.heap.size [] (w5.alloc (.cells #[.pointer none, .slice none 0 0] 58))) := Bld.new w5
          have HC6 := Lib.hid (HC5.out.al (.cells #[.pointer none, .slice none 0 0] 58))
          go_wp2_with (refine wpList_load_mid rfl 82 (.tmp 52) rfl w.heap.size 0 rfl _ _ (HC6.out.range HOK.out.1) Try.underlying82 rfl HS8.out ?_)
          obtain ⟨w6, hw6⟩ : ∃ w6, w6 = w5.alloc (.cells #[.pointer none, .slice none 0 0] 58) := ⟨_, rfl⟩
          rw [← hw6] at HB6 ⊢
          have HK6 : Hid (Keeps w w6) := by rw [hw6]; exact HK5.out.trans (kal _ _)
          have hz7 : w5.heap.size ≤ w6.heap.size := by rw [hw6]; simp
          clear hw6 HC6 HC5 HF
          generalize hNe : SH.fed (SH.padB l) = N at *
          have HNE := Lib.hid hNe
          clear hNe
          have HBN : Hid (∀ k : Nat, k < 8 → N.getD k 0 < 4294967296) := fun k _ => HOK.out.2 k
          have HIX : Hid (∀ k : Nat, k < 8 → ∀ wx : World, (Instr.index 82 (.agg (N.map fun (x : Nat) => Value.int .u32 (x : Int)).toArray) (.int .i64 (k : Int))).run Try.prog wx = .ok (.int .u32 (N.getD k 0 : Int)) wx) := fun k hk wx => index_arr N k HOK.out.1 hk wx
          generalize (N.map fun (x : Nat) => Value.int .u32 (x : Int)).toArray = A8 at *
          go_loopw [54] (fun i wx => ∃ k : Nat, k ≤ 8 ∧ i = .int .i64 k ∧ Hid (Bld w5.heap.size w5.heap.size (SH.digest (N.take k)) wx) ∧ Hid (Keeps w wx) ∧ w5.heap.size ≤ wx.heap.size) (fun i _ => 8 - (intOf i).toNat)
          case atStart => exact ⟨0, by omega, rfl, HB6, HK6, hz7⟩
          case round =>
            clear HB6 HK6 hz7
            obtain ⟨k, hk, rfl, hB, hK, hz7⟩ := hrel
            by_cases hlt : k < 8
            · have i1 : (k : Int) < 8 := by omega
              have hix := HIX.out k hlt
              have hxb := HBN.out k hlt
              have HDS : Hid (SH.digest (N.take (k + 1)) = SH.digest (N.take k) ++ SH.four (N.getD k 0)) := dig_succ N HOK.out.1 hlt
              have HDL : Hid ((SH.digest (N.take k)).length = 4 * k) := dig_len N HOK.out.1 hk
              generalize N.getD k 0 = x at *
              generalize SH.digest (N.take k) = D at *
              go_wp2_with fail
              obtain ⟨wo, rfl⟩ : ∃ wo : World, wo = wr := ⟨_, rfl⟩
              go_loopw [9] (fun i wx => ∃ j : Nat, j ≤ 4 ∧ i = .int .i64 ((j : Int) - 1) ∧ Hid (Bld w5.heap.size w5.heap.size (D ++ (SH.four x).take (4 - j)) wx) ∧ Hid (Keeps w wx) ∧ w5.heap.size ≤ wx.heap.size) (fun i _ => (intOf i + 1).toNat)
              case atStart => exact ⟨4, by omega, rfl, by simpa using hB, hK, hz7⟩
              case round =>
                clear hB hK hz7
                obtain ⟨j, hj, rfl, hB, hK, hz7⟩ := hrel
                cases j with
                | succ j =>
                  have e1 : ((j + 1 : Nat) : Int) - 1 = (j : Int) := by omega
                  rw [e1]
                  clear e1
                  have HV : Hid ((x : Int) / 2 ^ (8 * j) % 256 = (((SH.four x).getD (3 - j) 0).toNat : Int)) := by
                    show _ = _
                    rw [four_at x (by omega)]
                    simp
                  have HT : Hid ((SH.four x).take (4 - j) = (SH.four x).take (4 - (j + 1)) ++ [(SH.four x).getD (3 - j) 0]) := four_take x (by omega)
                  have hln : (D ++ (SH.four x).take (4 - (j + 1))).length + 1 ≤ 140737488355328 := by rw [List.length_append, HDL.out, List.length_take]; omega
                  go_wp2_with fail
                  rw [HV.out]
                  refine Calls.mono (wbyte_any w5.heap.size w5.heap.size _ ((SH.four x).getD (3 - j) 0) _ hB.out hln hz7) ?_
                  rintro e w7 ⟨rfl, hb7, k7⟩
                  have HB7 : Hid (Bld w5.heap.size w5.heap.size (D ++ (SH.four x).take (4 - j)) w7) := by
                    show Bld _ _ _ _
                    rw [HT.out, ← List.append_assoc]; exact hb7
                  have HK7 : Hid (Keeps w w7) := hK.out.then k7.1.kept hz5
                  have hz8 := k7.size
                  clear hb7 k7 hB hK HV HT hln
                  go_wp2_with fail
                  exact ⟨⟨j, by omega, rfl, HB7, HK7, by omega⟩, by simp [intOf]⟩
                | zero =>
                  have HB8 : Hid (Bld w5.heap.size w5.heap.size (SH.digest (N.take (k + 1))) wr) := by
                    show Bld _ _ _ _
                    rw [HDS.out]; exact hB.out
                  clear hB HDS HDL
                  go_wp2_with fail
                  exact ⟨⟨k + 1, by omega, by go_num, HB8, hK, hz7⟩, by simp [intOf]; omega⟩
            · obtain rfl : k = 8 := by omega
              have HB9 : Hid (Bld w5.heap.size w5.heap.size (SH.digest N) wr) := by
                show Bld _ _ _ _
                have := hB.out
                rwa [List.take_of_length_le (by rw [HOK.out.1]; exact Nat.le_refl _)] at this
              clear hB
              go_wp2_with fail
              refine Calls.mono (btext_any w5.heap.size w5.heap.size _ _ HB9.out hz7) ?_
              rintro e w8 ⟨rfl, _, k8⟩
              have HK8 : Hid (Keeps w w8) := hK.out.then k8.1.kept hz5
              clear k8
              go_wp2
              go_ret
              exact ⟨by show Ending.returned (.string (strB (SH.digest N))) = _; unfold SH.sumB; rw [HNE.out], HK8.out⟩
theorem hnew_m (w : World) : Calls Try.prog 49 #[] w fun e w' => e = .returned (.pointer (some ⟨w.heap.size, 0, none⟩)) ∧ HashM w' w.heap.size [] ∧ Keeps w w' :=
  (hnew_any w).mono fun e w' ⟨h1, ⟨vo, h2, h3⟩, h4⟩ => by
    refine ⟨h1, ?_, h4⟩
    obtain ⟨p, q, e0⟩ := seq_shape (SeqIn.at_ h3)
    have e1 : vo = .slice p 64 q := e0
    subst e1
    obtain ⟨b, o, c, u, e2, _⟩ := seq_cell (SeqIn.at_ h3) (i := 0) (by decide)
    injection e2 with e3 _ _
    subst e3
    exact ⟨.slice none 0 0, b, o, q, h2, ⟨SeqAt.nil _ _, fun p n q e h => by cases e⟩, capOk_mk (Nat.le_refl _), SeqIn.ty h3, SH.ok_HL⟩
set_option maxRecDepth 100000 in
set_option maxHeartbeats 4000000 in
theorem ssum_any (s : ByteArray) (w : World) (hs : s.size ≤ 70368744177664) : Calls Try.prog 34 #[.string s] w fun e w' => e = .returned (.string (strB (SH.sumB s.data.toList))) ∧ Keeps w w' := by
  go_enter Try.func34, Try.ntmps34
  go_wp2_with fail
  refine Calls.mono (hnew_m w) ?_
  rintro e w1 ⟨rfl, h1, k1⟩
  have K1 := Lib.hid k1
  have H1 := Lib.hid h1
  clear h1 k1
  go_wp2_with fail
  refine Calls.mono (hadd_any w.heap.size [] s w1 H1.out (by simp; omega)) ?_
  rintro e w2 ⟨rfl, h2, k2⟩
  have H2 : Hid (HashM w2 w.heap.size s.data.toList) := h2
  have K2 : Hid (Keeps w w2) := ((Kept.any (T := fun x => x = w.heap.size) K1.out).trans k2).keeps fun x h1 h2 => by omega
  clear h2 k2
  go_wp2_with fail
  refine Calls.mono (hsum_any w.heap.size s.data.toList w2 H2.out (by rw [data_size]; omega)) ?_
  rintro e w3 ⟨rfl, k3⟩
  have K3 := Lib.hid (K2.out.trans k3)
  clear k3
  go_wp2
  go_ret
  exact ⟨rfl, K3.out⟩
theorem hsum_nil (w : World) : Calls Try.prog 51 #[.pointer none] w fun e w' => e = .returned (.string (strB (SH.sumB []))) ∧ Keeps w w' := by
  go_enter Try.func51, Try.ntmps51
  go_wp2_with fail
  refine Calls.mono (ssum_any ⟨#[]⟩ w (by simp [ByteArray.size])) ?_
  rintro e w1 ⟨rfl, k1⟩
  have K1 := Lib.hid k1
  clear k1
  go_wp2
  go_ret
  exact ⟨rfl, K1.out⟩
end Go.Proofs.Yteandjophamipaa
