/- The walk of pack.Read. -/
import Derived.Test.YteandjophamipaaNum2
import Derived.Test.YteandjophamipaaPkW
import Derived.Test.YteandjophamipaaReadInv
import Derived.Laws.EntriesVeiled
namespace Go.Proofs.Yteandjophamipaa
open Go.RowKit
def GiveR (w : World) (r : List ByteArray × List Int × Int) (e : Ending) (w' : World) : Prop :=
  ∃ v u, e = .returned (.tuple #[v, u, .int .i64 r.2.2]) ∧ SeqIn (w.heap.size ≤ ·) 9 IsText w'.heap v r.1 ∧ SeqIn (w.heap.size ≤ ·) 3 IsInt w'.heap u r.2.1 ∧ Keeps w w'
theorem GiveR.err {w w' : World} {r : Int} (k : Keeps w w') : GiveR w ([], [], r) (.returned (.tuple #[.slice none 0 0, .slice none 0 0, .int .i64 r])) w' := ⟨_, _, rfl, SeqIn.nil _ _ _ _, SeqIn.nil _ _ _ _, k⟩
theorem st_new (w : World) (s : ByteArray) : St w.heap.size s.data.toList false (((w.alloc (.cells #[.string s] 9)).alloc (.cells #[.bool false] 4)).alloc
    (.cells #[.func (.func 41) #[] #[.pointer (some ⟨w.heap.size, 0, none⟩), .pointer (some ⟨w.heap.size + 1, 0, none⟩)]] 67)) := by
  have e1 : ∀ (w : World) (o : Obj), (w.alloc o).heap.size = w.heap.size + 1 := fun w o => by simp
  refine ⟨?_, ?_, ?_⟩
  · unfold Txt
    rw [Below.heap_alloc _ _ _ (by rw [e1, e1]; omega), Below.heap_alloc _ _ _ (by rw [e1]; omega), strB_data]
    exact heap_alloc_new _ _
  · unfold Flg
    rw [Below.heap_alloc _ _ _ (by rw [e1, e1]; omega), ← e1 w (.cells #[.string s] 9)]
    exact heap_alloc_new _ _
  · unfold Fnc
    rw [show w.heap.size + 2 = ((w.alloc (.cells #[.string s] 9)).alloc (.cells #[.bool false] 4)).heap.size from by rw [e1, e1]]
    exact heap_alloc_new _ _
theorem St.flag {B : Nat} {x : List UInt8} {bad : Bool} {w : World} (h : St B x bad w) (y : Bool) : St B x y (w.setCell ⟨B + 1, 0, none⟩ (.bool y)) := by
  have c : Chg (fun k => k = B + 1) w (w.setCell ⟨B + 1, 0, none⟩ (.bool y)) := Chg.setCell (p := ⟨B + 1, 0, none⟩) (T := fun k => k = B + 1) (Chg.refl _ w) (fun _ => rfl) _
  exact ⟨h.1.chg c (by omega), h.2.1.set y, h.2.2.chg c (by omega)⟩
/-- Numbers as Go's. -/
def ints (zs : List Nat) : List Int := zs.map Int.ofNat
theorem ints_snoc (zs : List Nat) (v : Nat) : ints (zs ++ [v]) = ints zs ++ [(v : Int)] := by unfold ints; rw [List.map_append]; rfl
theorem ints_length (zs : List Nat) : (ints zs).length = zs.length := by unfold ints; rw [List.length_map]
theorem ints_at {zs : List Nat} {j : Nat} (h : j < zs.length) : (ints zs)[j]'(by rw [ints_length]; exact h) = (zs[j] : Int) := by unfold ints; rw [List.getElem_map]; rfl
/-- Rows of blocks from base on are kept by what turns other blocks. -/
theorem OwnSeq.keep {α : Type} {base : Nat} {E : TypeId} {R : Value → α → Prop} {w w' : World} {v : Value} {l : List α} {T : Nat → Prop} (h : OwnSeq base E R w v l) (c : Chg T w w') (ht : ∀ k, base ≤ k → k < w.heap.size → typH w.heap k = some E → ¬ T k) : OwnSeq base E R w' v l := by
  obtain ⟨us, h1, h2, h3⟩ := h
  exact ⟨us, owns_chg h1 c fun k hk => ht k (own_block h1 k hk).1 (own_block h1 k hk).2.1 (own_block h1 k hk).2.2, h2, h3⟩
set_option maxRecDepth 100000 in
set_option maxHeartbeats 4000000 in
theorem pread_any (s : ByteArray) (w : World) (hs : s.size ≤ 60000) : Calls Try.prog 20 #[.string s] w (GiveR w (readP s.data.toList)) := by
  have hmf : ∀ (fn : Fn) (first cap : Array Value) (w : World), (Instr.makeFunc fn first cap).run Try.prog w = .ok (.func fn first cap) w := fun _ _ _ _ => rfl
  have hbl : s.data.toList.length = s.size := data_size s
  obtain ⟨b, hb⟩ : ∃ b, b = s.data.toList := ⟨_, rfl⟩
  rw [← hb] at hbl ⊢
  have HB := Lib.hid hb
  have HBL := Lib.hid hbl
  clear hb hbl
  go_enter Try.func20, Try.ntmps20
  go_wp2_with fail
  refine Calls.mono (take_u w.heap.size 4 b false _ (HB.out ▸ st_new w s) (by omega) (by have := HBL.out; omega)) ?_
  rintro e w1 ⟨z, x1, bd1, rfl, hst, hc, hl, h1, h2⟩
  have HK1 : Hid (Keeps w w1) := ((((kal w _).alloc (Nat.le_refl _) _).alloc (Nat.le_refl _) _).chg.trans (hc.mono (T' := fun k => w.heap.size ≤ k) fun k _ h => by omega)).keeps fun k hk h => by omega
  have HQ : Hid (Head b x1 (!(strB z).toList == [112, 97, 107, 49])) := by
    show Head _ _ _
    rw [strB_toList]
    exact head_of hl (fun h => ⟨(h1 h).1, (h1 h).2.1⟩) (fun h => (h2 h).1) rfl
  have ST1 := Lib.hid (hst.flag (!(strB z).toList == [112, 97, 107, 49]))
  obtain ⟨c6, f6⟩ := hst.2.1.cell
  have HK2 : Hid (Keeps w (w1.setCell ⟨w.heap.size + 1, 0, none⟩ (.bool (!(strB z).toList == [112, 97, 107, 49])))) := HK1.out.setCell (p := ⟨w.heap.size + 1, 0, none⟩) (by show _ ≤ _ + 1; omega) _
  clear hc hst h1 h2 hl
  go_wp2_with fail
  generalize (!(strB z).toList == [112, 97, 107, 49]) = q at *
  generalize w1.setCell ⟨w.heap.size + 1, 0, none⟩ (.bool q) = w2 at *
  clear c6 f6 HK1
  refine Calls.mono (num_u w.heap.size x1 q w2 ST1.out (by have := HQ.out.2.2; have := HBL.out; omega)) ?_
  rintro e w3 ⟨N, x2, bd3, rfl, hst, hc, hl, hv, h1, h2⟩
  have HI0 : Hid (Inv1 b N 0 [] x2 bd3) := inv1_start HQ.out hl h1 h2
  have HS0 := Lib.hid hst
  have HK3 : Hid (Keeps w w3) := (HK2.out.chg.trans (hc.mono (T' := fun k => w.heap.size ≤ k) fun k _ h => by omega)).keeps fun k hk h => by omega
  have hB3 := hst.lt
  clear hc hst h1 h2 hl HQ HK2 ST1
  go_wp2_with fail
  go_loopw [9, 20] (fun u i wr => ∃ (k : Nat) (zs : List Nat) (x : List UInt8) (bad : Bool), k ≤ N ∧ i = .int .i64 k ∧ Hid (OwnSeq (w.heap.size + 3) 3 IsInt wr u (ints zs)) ∧ Hid (Inv1 b N k zs x bad) ∧ Hid (St w.heap.size x bad wr) ∧ Hid (Keeps w wr)) (fun _ i _ => N - (intOf i).toNat)
  case atStart => exact ⟨0, [], x2, bd3, by omega, rfl, OwnSeq.nil _ _ _ _, HI0, HS0, HK3⟩
  case round =>
    obtain ⟨k, zs, x, bad, hk, rfl, hO, hI, hS, hK⟩ := hrel
    clear HI0 HS0 HK3 hB3
    obtain ⟨w5, rfl⟩ : ∃ w5 : World, w5 = wr := ⟨_, rfl⟩
    obtain ⟨c6, f6⟩ := hS.out.2.1.cell
    have hB3 := hS.out.lt
    have hxb : x.length ≤ s.size := by have := hI.out.2.2.1; have := HBL.out; omega
    by_cases hlt : k < N
    · have hlt64 : (k : Int) < (N : Int) := by omega
      cases bad with
      | true =>
        have HI2 : Hid (Inv2 b zs 0 [] [] x true) := hI.out.two (fun h => by cases h)
        have hz0 : zs.length ≤ 65536 := by have := hI.out.2.2.2.1; omega
        have HZ5 : Hid (∀ n ∈ zs, n < 65536) := hI.out.2.2.2.2
        have HSZ : Hid (SeqIn (fun k => w.heap.size + 3 ≤ k ∧ k < w5.heap.size) 3 IsInt w5.heap u9 (ints zs)) := (SeqIn.bound (hO.out.seq (by rw [ints_length]; omega)) fun _ _ x => x)
        obtain ⟨p9, q9, rfl⟩ := seq_shape (SeqIn.at_ HSZ.out)
        rw [ints_length] at HSZ ⊢
        have HK5 := hK
        have HS5 := hS
        clear hO hI hS hK
        go_wp2_with fail
        go_loopw [2, 3, 31] (fun c o i wx => ∃ (j : Nat) (cs : List ByteArray) (os : List Int) (x : List UInt8) (bad : Bool), j ≤ zs.length ∧ i = .int .i64 j ∧ Hid (OwnSeq w5.heap.size 9 IsText wx c cs) ∧ Hid (OwnSeq w5.heap.size 3 IsInt wx o os) ∧ cs.length = j ∧ os.length = j ∧ Hid (Inv2 b zs j cs os x bad) ∧ Hid (St w.heap.size x bad wx) ∧ Hid (Chg (fun k => k = w.heap.size ∨ k = w.heap.size + 1 ∨ w5.heap.size ≤ k) w5 wx)) (fun _ _ i _ => zs.length - (intOf i).toNat)
        case atStart => exact ⟨0, [], [], x, _, by omega, rfl, OwnSeq.nil _ _ _ _, OwnSeq.nil _ _ _ _, rfl, rfl, HI2, HS5, Chg.refl _ _⟩
        case round =>
          obtain ⟨j, cs, os, y, bd, hj, rfl, hC, hO, hcl, hol, hI, hS, hG⟩ := hrel
          clear HI2 HS5 c6 f6 hxb
          obtain ⟨c5, f5⟩ := hS.out.1.cell
          obtain ⟨c6, f6⟩ := hS.out.2.1.cell
          have c7 := hS.out.2.2.cell
          have hB5 := hS.out.lt
          have hg5 := hG.out.size
          have hyz : (strB y).size = y.length := strB_size y
          have hyb : y.length ≤ s.size := by have := hI.out.2.2; have := HBL.out; omega
          have HKr : Hid (Keeps w wr) := (HK5.out.chg.trans (hG.out.mono (T' := fun k => w.heap.size ≤ k) fun k _ h => by omega)).keeps fun k hk h => by omega
          by_cases hlj : j < zs.length
          · have hj64 : (j : Int) < (zs.length : Int) := by omega
            have hj0 : (0 : Int) ≤ (j : Int) := by omega
            have hz : SeqIn (fun k => w.heap.size + 3 ≤ k ∧ k < w5.heap.size) 3 IsInt wr.heap (.slice p9 zs.length q9) (ints zs) := SeqIn.chg HSZ.out hG.out (fun k _ h _ => by omega) fun _ _ _ x => x
            obtain ⟨b9, o9, c9, u, e5, d1, r1⟩ := seq_cell (SeqIn.at_ hz) (show j < (ints zs).length by rw [ints_length]; exact hlj)
            injection e5 with e6 e7 e8
            subst e6 e8
            unfold IsInt at r1
            subst r1
            rw [ints_at hlj] at d1
            obtain ⟨n, hn⟩ : ∃ n, zs[j] = n := ⟨_, rfl⟩
            rw [hn] at d1
            have hn65 : n < 65536 := by rw [← hn]; exact HZ5.out _ (List.getElem_mem hlj)
            have HN := Lib.hid hn
            obtain ⟨us, hu1, hu2, hu3⟩ := hO.out
            have hul : us.length = j := by rw [hu2, hol]
            have HU := Lib.hid hu1
            have HL2 := Lib.hid hu2
            have HL3 := Lib.hid hul
            have H3 := Lib.hid hu3
            have HCL := Lib.hid hcl
            have HOL := Lib.hid hol
            have hb9 := cell_lt d1
            have HYZ := Lib.hid hyz
            clear hn hz e7 hu1 hu2 hul hu3 hcl hol
            go_wp2_with (at_builtin; refine wp_app1 elInt rfl _ _ rfl w5.heap.size u3 us rfl (HU.out.alloc _) _ (.int .i64 ((s.size : Int) - (y.length : Int))) rfl ?c1 rfl ?c2 ?c3 ?_)
            case c1 => first | exact World.cell?_alloc_new _ _ _ _ | simp [go_sem]
            case c2 => have := HL3.out; omega
            case c3 => first | omega | (simp; omega)
            intro v' w6 hown hchg
            have hc6 : Chg (fun k => u3.ownBlock = some k) wr w6 := ((Chg.refl _ wr).alloc _).trans hchg
            have HO6 : Hid (OwnSeq w5.heap.size 3 IsInt w6 v' (os ++ [(b.length : Int) - (y.length : Int)])) := by
              show OwnSeq _ _ _ _ _ _
              rw [HBL.out]
              exact OwnSeq.push (R := IsInt) HL2.out H3.out hown (fun _ _ _ x => x) rfl
            have HC6 : Hid (OwnSeq w5.heap.size 9 IsText w6 u2 cs) := hC.out.keep hc6 fun k _ _ ht hk => by
              have := (own_block HU.out k hk).2.2
              rw [ht] at this; cases this
            have HS6 : Hid (St w.heap.size y bd w6) := hS.out.chg hc6 fun k hk h => by have := (own_block HU.out k h).1; omega
            have HG6 : Hid (Chg (fun k => k = w.heap.size ∨ k = w.heap.size + 1 ∨ w5.heap.size ≤ k) w5 w6) := hG.out.trans (hc6.mono fun k _ h => .inr (.inr (own_block HU.out k h).1))
            have c7 := HS6.out.2.2.cell
            clear hown hchg hc6 c5 f5 c6 f6 d1 HYZ hyz
            go_wp2_with fail
            refine Calls.mono (take_u w.heap.size n y bd w6 HS6.out (by omega) (by omega)) ?_
            rintro e w7 ⟨zz, y7, bd7, rfl, hst, hc, hl, h1, h2⟩
            have HI7 : Hid (Inv2 b zs (j + 1) (cs ++ [strB zz]) (os ++ [(b.length : Int) - (y.length : Int)]) y7 bd7) := hI.out.step hlj HN.out hl h1 (fun h => (h2 h).2)
            have hs7 := hc.size
            have hg6 := HG6.out.size
            have HO7 : Hid (OwnSeq w5.heap.size 3 IsInt w7 v' (os ++ [(b.length : Int) - (y.length : Int)])) := HO6.out.keep hc fun k h1 _ _ h => by omega
            have HC7 : Hid (OwnSeq w5.heap.size 9 IsText w7 u2 cs) := HC6.out.keep hc fun k h1 _ _ h => by omega
            have HS7 := Lib.hid hst
            have HG7 : Hid (Chg (fun k => k = w.heap.size ∨ k = w.heap.size + 1 ∨ w5.heap.size ≤ k) w5 w7) := HG6.out.trans (hc.mono fun k _ h => by omega)
            clear hc hst hl h1 h2 c7
            obtain ⟨vs, hv1, hv2, hv3⟩ := HC7.out
            have hvl : vs.length = j := by rw [hv2, HCL.out]
            have HV := Lib.hid hv1
            have HV2 := Lib.hid hv2
            have HV3 := Lib.hid hvl
            have H4 := Lib.hid hv3
            clear hv1 hv2 hvl hv3
            go_wp2_with (at_builtin; refine wp_app1 elText rfl _ _ rfl w5.heap.size u2 vs rfl (HV.out.alloc _) _ (.string (strB zz)) rfl ?d1 rfl ?d2 ?d3 ?_)
            case d1 => first | exact World.cell?_alloc_new _ _ _ _ | simp [go_sem]
            case d2 => have := HV3.out; omega
            case d3 => first | omega | (simp; omega)
            intro v8 w8 hown hchg
            have hc8 : Chg (fun k => u2.ownBlock = some k) w7 w8 := ((Chg.refl _ w7).alloc _).trans hchg
            have HC8 : Hid (OwnSeq w5.heap.size 9 IsText w8 v8 (cs ++ [strB zz])) := OwnSeq.push (R := IsText) HV2.out H4.out hown (fun _ _ _ x => x) rfl
            have HO8 : Hid (OwnSeq w5.heap.size 3 IsInt w8 v' (os ++ [(b.length : Int) - (y.length : Int)])) := HO7.out.keep hc8 fun k _ _ ht hk => by
              have := (own_block HV.out k hk).2.2
              rw [ht] at this; cases this
            have HS8 : Hid (St w.heap.size y7 bd7 w8) := HS7.out.chg hc8 fun k hk h => by have := (own_block HV.out k h).1; omega
            have HG8 : Hid (Chg (fun k => k = w.heap.size ∨ k = w.heap.size + 1 ∨ w5.heap.size ≤ k) w5 w8) := HG7.out.trans (hc8.mono fun k _ h => .inr (.inr (own_block HV.out k h).1))
            have hcl' : (cs ++ [strB zz]).length = j + 1 := by rw [List.length_append, HCL.out]; rfl
            have hol' : (os ++ [(b.length : Int) - (y.length : Int)]).length = j + 1 := by rw [List.length_append, HOL.out]; rfl
            have HCL8 := Lib.hid hcl'
            have HOL8 := Lib.hid hol'
            clear hown hchg hc8 hcl' hol'
            go_wp2_with fail
            exact ⟨⟨j + 1, _, _, y7, bd7, by omega, by go_num, HC8, HO8, HCL8.out, HOL8.out, HI7, HS8, HG8⟩, by simp [intOf]; omega⟩
          · obtain rfl : j = zs.length := by omega
            cases bd with
            | true =>
              have HE := Lib.hid hI.out.bad
              go_wp2_with fail
              go_ret3
              rw [HE.out]
              exact GiveR.err HKr.out
            | false =>
              by_cases hy0 : 0 < y.length
              · have HE := Lib.hid (hI.out.left hy0)
                have g1 : decide ((0 : Int) < (y.length : Int)) = true := decide_eq_true (by omega)
                have g2 : decide (0 < y.length) = true := decide_eq_true hy0
                go_wp2_with fail
                go_ret3
                rw [HE.out]
                exact GiveR.err HKr.out
              · have HE := Lib.hid (hI.out.all (by omega))
                have g1 : decide ((0 : Int) < (y.length : Int)) = false := decide_eq_false (by omega)
                have g2 : decide (0 < y.length) = false := decide_eq_false hy0
                have HCT : Hid (SeqIn (w5.heap.size ≤ ·) 9 IsText wr.heap u2 cs) := hC.out.seq (by omega)
                have HOT : Hid (SeqIn (w5.heap.size ≤ ·) 3 IsInt wr.heap u3 os) := hO.out.seq (by omega)
                have hw5 := HK5.out.size
                obtain ⟨mm, hmm⟩ : ∃ mm, mayP cs = mm := ⟨_, rfl⟩
                have HMM := Lib.hid hmm
                clear hmm
                go_wp2_with fail
                refine Calls.mono (pmay_e _ cs _ (SeqIn.at_ HCT.out) mm HMM.out) ?_
                rintro e w9 ⟨rfl, hk9⟩
                have HK9 := Lib.hid (HKr.out.call hk9 (Nat.le_refl _))
                have HCT9 : Hid (SeqIn (w5.heap.size ≤ ·) 9 IsText w9.heap u2 cs) := SeqIn.chg HCT.out (T := fun _ => False) (Kept.any hk9) (fun _ _ _ _ x => x) fun _ _ _ x => x
                have HOT9 : Hid (SeqIn (w5.heap.size ≤ ·) 3 IsInt w9.heap u3 os) := SeqIn.chg HOT.out (T := fun _ => False) (Kept.any hk9) (fun _ _ _ _ x => x) fun _ _ _ x => x
                clear hk9
                cases mm with
                | true =>
                  have HEE : Hid (readP b = (cs, os, 0)) := by show _ = _; rw [HE.out, HMM.out]; rfl
                  go_wp2_with fail
                  go_ret3
                  rw [HEE.out]
                  exact ⟨_, _, rfl, SeqIn.mono HCT9.out (fun k hk => Nat.le_trans hw5 hk) fun _ _ x => x, SeqIn.mono HOT9.out (fun k hk => Nat.le_trans hw5 hk) fun _ _ x => x, HK9.out⟩
                | false =>
                  have HEE : Hid (readP b = ([], [], 4)) := by show _ = _; rw [HE.out, HMM.out]; rfl
                  go_wp2_with fail
                  go_ret3
                  rw [HEE.out]
                  exact GiveR.err HK9.out
      | false =>
        go_wp2_with fail
        refine Calls.mono (num_u w.heap.size x false w5 hS.out (by omega)) ?_
        rintro e w6 ⟨v, x6, bd6, rfl, hst, hc, hl, hv6, h1, h2⟩
        have HI6 : Hid (Inv1 b N (k + 1) (zs ++ [v]) x6 bd6) := hI.out.step hlt hl hv6 h1 h2
        have HS6 := Lib.hid hst
        have HK6 : Hid (Keeps w w6) := (hK.out.chg.trans (hc.mono (T' := fun k => w.heap.size ≤ k) fun k _ h => by omega)).keeps fun k hk h => by omega
        have HO6 : Hid (OwnSeq (w.heap.size + 3) 3 IsInt w6 u9 (ints zs)) := hO.out.keep hc fun k h1 _ _ h => by omega
        have hs6 := hc.size
        have hzl : zs.length = k := hI.out.2.2.2.1
        have HZL := Lib.hid hzl
        clear hc hst hl h1 h2 c6 f6 hzl
        obtain ⟨us, hu1, hu2, hu3⟩ := HO6.out
        have hul : us.length = k := by rw [hu2, ints_length, HZL.out]
        have HU := Lib.hid hu1
        have HL2 := Lib.hid hu2
        have HL3 := Lib.hid hul
        have H3 := Lib.hid hu3
        clear hu1 hu2 hul hu3
        go_wp2_with (at_builtin; refine wp_app1 elInt rfl _ _ rfl (w.heap.size + 3) u9 us rfl (HU.out.alloc _) _ (.int .i64 (v : Int)) rfl ?a1 rfl ?a2 ?a3 ?_)
        case a1 => first | exact World.cell?_alloc_new _ _ _ _ | simp [go_sem]
        case a2 => have := HL3.out; omega
        case a3 => simp; omega
        intro v' w7 hown hchg
        have hc7 : Chg (fun k => u9.ownBlock = some k) w6 w7 := ((Chg.refl _ w6).alloc _).trans hchg
        have HO7 : Hid (OwnSeq (w.heap.size + 3) 3 IsInt w7 v' (ints (zs ++ [v]))) := by
          show OwnSeq _ _ _ _ _ _
          rw [ints_snoc]
          exact OwnSeq.push (R := IsInt) HL2.out H3.out hown (fun _ _ _ x => x) rfl
        have HS7 : Hid (St w.heap.size x6 bd6 w7) := HS6.out.chg hc7 fun k hk h => by have := (own_block HU.out k h).1; omega
        have HK7 : Hid (Keeps w w7) := (HK6.out.chg.trans (hc7.mono (T' := fun k => w.heap.size ≤ k) fun k _ h => by have := (own_block HU.out k h).1; omega)).keeps fun k hk h => by omega
        clear hown hchg hc7
        go_wp2_with fail
        exact ⟨⟨k + 1, _, x6, bd6, by omega, by go_num, HO7, HI6, HS7, HK7⟩, by simp [intOf]; omega⟩
    · obtain rfl : k = N := by omega
      have HI2 : Hid (Inv2 b zs 0 [] [] x bad) := hI.out.two (fun _ => rfl)
      have hz0 : zs.length ≤ 65536 := by have := hI.out.2.2.2.1; omega
      have HZ5 : Hid (∀ n ∈ zs, n < 65536) := hI.out.2.2.2.2
      have HSZ : Hid (SeqIn (fun k => w.heap.size + 3 ≤ k ∧ k < w5.heap.size) 3 IsInt w5.heap u9 (ints zs)) := (SeqIn.bound (hO.out.seq (by rw [ints_length]; omega)) fun _ _ x => x)
      obtain ⟨p9, q9, rfl⟩ := seq_shape (SeqIn.at_ HSZ.out)
      rw [ints_length] at HSZ ⊢
      have HK5 := hK
      have HS5 := hS
      clear hO hI hS hK
      go_wp2_with fail
      go_loopw [2, 3, 31] (fun c o i wx => ∃ (j : Nat) (cs : List ByteArray) (os : List Int) (x : List UInt8) (bad : Bool), j ≤ zs.length ∧ i = .int .i64 j ∧ Hid (OwnSeq w5.heap.size 9 IsText wx c cs) ∧ Hid (OwnSeq w5.heap.size 3 IsInt wx o os) ∧ cs.length = j ∧ os.length = j ∧ Hid (Inv2 b zs j cs os x bad) ∧ Hid (St w.heap.size x bad wx) ∧ Hid (Chg (fun k => k = w.heap.size ∨ k = w.heap.size + 1 ∨ w5.heap.size ≤ k) w5 wx)) (fun _ _ i _ => zs.length - (intOf i).toNat)
      case atStart => exact ⟨0, [], [], x, _, by omega, rfl, OwnSeq.nil _ _ _ _, OwnSeq.nil _ _ _ _, rfl, rfl, HI2, HS5, Chg.refl _ _⟩
      case round =>
        obtain ⟨j, cs, os, y, bd, hj, rfl, hC, hO, hcl, hol, hI, hS, hG⟩ := hrel
        clear HI2 HS5 c6 f6 hxb
        obtain ⟨c5, f5⟩ := hS.out.1.cell
        obtain ⟨c6, f6⟩ := hS.out.2.1.cell
        have c7 := hS.out.2.2.cell
        have hB5 := hS.out.lt
        have hg5 := hG.out.size
        have hyz : (strB y).size = y.length := strB_size y
        have hyb : y.length ≤ s.size := by have := hI.out.2.2; have := HBL.out; omega
        have HKr : Hid (Keeps w wr) := (HK5.out.chg.trans (hG.out.mono (T' := fun k => w.heap.size ≤ k) fun k _ h => by omega)).keeps fun k hk h => by omega
        by_cases hlj : j < zs.length
        · have hj64 : (j : Int) < (zs.length : Int) := by omega
          have hj0 : (0 : Int) ≤ (j : Int) := by omega
          have hz : SeqIn (fun k => w.heap.size + 3 ≤ k ∧ k < w5.heap.size) 3 IsInt wr.heap (.slice p9 zs.length q9) (ints zs) := SeqIn.chg HSZ.out hG.out (fun k _ h _ => by omega) fun _ _ _ x => x
          obtain ⟨b9, o9, c9, u, e5, d1, r1⟩ := seq_cell (SeqIn.at_ hz) (show j < (ints zs).length by rw [ints_length]; exact hlj)
          injection e5 with e6 e7 e8
          subst e6 e8
          unfold IsInt at r1
          subst r1
          rw [ints_at hlj] at d1
          obtain ⟨n, hn⟩ : ∃ n, zs[j] = n := ⟨_, rfl⟩
          rw [hn] at d1
          have hn65 : n < 65536 := by rw [← hn]; exact HZ5.out _ (List.getElem_mem hlj)
          have HN := Lib.hid hn
          obtain ⟨us, hu1, hu2, hu3⟩ := hO.out
          have hul : us.length = j := by rw [hu2, hol]
          have HU := Lib.hid hu1
          have HL2 := Lib.hid hu2
          have HL3 := Lib.hid hul
          have H3 := Lib.hid hu3
          have HCL := Lib.hid hcl
          have HOL := Lib.hid hol
          have hb9 := cell_lt d1
          have HYZ := Lib.hid hyz
          clear hn hz e7 hu1 hu2 hul hu3 hcl hol
          go_wp2_with (at_builtin; refine wp_app1 elInt rfl _ _ rfl w5.heap.size u3 us rfl (HU.out.alloc _) _ (.int .i64 ((s.size : Int) - (y.length : Int))) rfl ?c1 rfl ?c2 ?c3 ?_)
          case c1 => first | exact World.cell?_alloc_new _ _ _ _ | simp [go_sem]
          case c2 => have := HL3.out; omega
          case c3 => first | omega | (simp; omega)
          intro v' w6 hown hchg
          have hc6 : Chg (fun k => u3.ownBlock = some k) wr w6 := ((Chg.refl _ wr).alloc _).trans hchg
          have HO6 : Hid (OwnSeq w5.heap.size 3 IsInt w6 v' (os ++ [(b.length : Int) - (y.length : Int)])) := by
            show OwnSeq _ _ _ _ _ _
            rw [HBL.out]
            exact OwnSeq.push (R := IsInt) HL2.out H3.out hown (fun _ _ _ x => x) rfl
          have HC6 : Hid (OwnSeq w5.heap.size 9 IsText w6 u2 cs) := hC.out.keep hc6 fun k _ _ ht hk => by
            have := (own_block HU.out k hk).2.2
            rw [ht] at this; cases this
          have HS6 : Hid (St w.heap.size y bd w6) := hS.out.chg hc6 fun k hk h => by have := (own_block HU.out k h).1; omega
          have HG6 : Hid (Chg (fun k => k = w.heap.size ∨ k = w.heap.size + 1 ∨ w5.heap.size ≤ k) w5 w6) := hG.out.trans (hc6.mono fun k _ h => .inr (.inr (own_block HU.out k h).1))
          have c7 := HS6.out.2.2.cell
          clear hown hchg hc6 c5 f5 c6 f6 d1 HYZ hyz
          go_wp2_with fail
          refine Calls.mono (take_u w.heap.size n y bd w6 HS6.out (by omega) (by omega)) ?_
          rintro e w7 ⟨zz, y7, bd7, rfl, hst, hc, hl, h1, h2⟩
          have HI7 : Hid (Inv2 b zs (j + 1) (cs ++ [strB zz]) (os ++ [(b.length : Int) - (y.length : Int)]) y7 bd7) := hI.out.step hlj HN.out hl h1 (fun h => (h2 h).2)
          have hs7 := hc.size
          have hg6 := HG6.out.size
          have HO7 : Hid (OwnSeq w5.heap.size 3 IsInt w7 v' (os ++ [(b.length : Int) - (y.length : Int)])) := HO6.out.keep hc fun k h1 _ _ h => by omega
          have HC7 : Hid (OwnSeq w5.heap.size 9 IsText w7 u2 cs) := HC6.out.keep hc fun k h1 _ _ h => by omega
          have HS7 := Lib.hid hst
          have HG7 : Hid (Chg (fun k => k = w.heap.size ∨ k = w.heap.size + 1 ∨ w5.heap.size ≤ k) w5 w7) := HG6.out.trans (hc.mono fun k _ h => by omega)
          clear hc hst hl h1 h2 c7
          obtain ⟨vs, hv1, hv2, hv3⟩ := HC7.out
          have hvl : vs.length = j := by rw [hv2, HCL.out]
          have HV := Lib.hid hv1
          have HV2 := Lib.hid hv2
          have HV3 := Lib.hid hvl
          have H4 := Lib.hid hv3
          clear hv1 hv2 hvl hv3
          go_wp2_with (at_builtin; refine wp_app1 elText rfl _ _ rfl w5.heap.size u2 vs rfl (HV.out.alloc _) _ (.string (strB zz)) rfl ?d1 rfl ?d2 ?d3 ?_)
          case d1 => first | exact World.cell?_alloc_new _ _ _ _ | simp [go_sem]
          case d2 => have := HV3.out; omega
          case d3 => first | omega | (simp; omega)
          intro v8 w8 hown hchg
          have hc8 : Chg (fun k => u2.ownBlock = some k) w7 w8 := ((Chg.refl _ w7).alloc _).trans hchg
          have HC8 : Hid (OwnSeq w5.heap.size 9 IsText w8 v8 (cs ++ [strB zz])) := OwnSeq.push (R := IsText) HV2.out H4.out hown (fun _ _ _ x => x) rfl
          have HO8 : Hid (OwnSeq w5.heap.size 3 IsInt w8 v' (os ++ [(b.length : Int) - (y.length : Int)])) := HO7.out.keep hc8 fun k _ _ ht hk => by
            have := (own_block HV.out k hk).2.2
            rw [ht] at this; cases this
          have HS8 : Hid (St w.heap.size y7 bd7 w8) := HS7.out.chg hc8 fun k hk h => by have := (own_block HV.out k h).1; omega
          have HG8 : Hid (Chg (fun k => k = w.heap.size ∨ k = w.heap.size + 1 ∨ w5.heap.size ≤ k) w5 w8) := HG7.out.trans (hc8.mono fun k _ h => .inr (.inr (own_block HV.out k h).1))
          have hcl' : (cs ++ [strB zz]).length = j + 1 := by rw [List.length_append, HCL.out]; rfl
          have hol' : (os ++ [(b.length : Int) - (y.length : Int)]).length = j + 1 := by rw [List.length_append, HOL.out]; rfl
          have HCL8 := Lib.hid hcl'
          have HOL8 := Lib.hid hol'
          clear hown hchg hc8 hcl' hol'
          go_wp2_with fail
          exact ⟨⟨j + 1, _, _, y7, bd7, by omega, by go_num, HC8, HO8, HCL8.out, HOL8.out, HI7, HS8, HG8⟩, by simp [intOf]; omega⟩
        · obtain rfl : j = zs.length := by omega
          cases bd with
          | true =>
            have HE := Lib.hid hI.out.bad
            go_wp2_with fail
            go_ret3
            rw [HE.out]
            exact GiveR.err HKr.out
          | false =>
            by_cases hy0 : 0 < y.length
            · have HE := Lib.hid (hI.out.left hy0)
              have g1 : decide ((0 : Int) < (y.length : Int)) = true := decide_eq_true (by omega)
              have g2 : decide (0 < y.length) = true := decide_eq_true hy0
              go_wp2_with fail
              go_ret3
              rw [HE.out]
              exact GiveR.err HKr.out
            · have HE := Lib.hid (hI.out.all (by omega))
              have g1 : decide ((0 : Int) < (y.length : Int)) = false := decide_eq_false (by omega)
              have g2 : decide (0 < y.length) = false := decide_eq_false hy0
              have HCT : Hid (SeqIn (w5.heap.size ≤ ·) 9 IsText wr.heap u2 cs) := hC.out.seq (by omega)
              have HOT : Hid (SeqIn (w5.heap.size ≤ ·) 3 IsInt wr.heap u3 os) := hO.out.seq (by omega)
              have hw5 := HK5.out.size
              obtain ⟨mm, hmm⟩ : ∃ mm, mayP cs = mm := ⟨_, rfl⟩
              have HMM := Lib.hid hmm
              clear hmm
              go_wp2_with fail
              refine Calls.mono (pmay_e _ cs _ (SeqIn.at_ HCT.out) mm HMM.out) ?_
              rintro e w9 ⟨rfl, hk9⟩
              have HK9 := Lib.hid (HKr.out.call hk9 (Nat.le_refl _))
              have HCT9 : Hid (SeqIn (w5.heap.size ≤ ·) 9 IsText w9.heap u2 cs) := SeqIn.chg HCT.out (T := fun _ => False) (Kept.any hk9) (fun _ _ _ _ x => x) fun _ _ _ x => x
              have HOT9 : Hid (SeqIn (w5.heap.size ≤ ·) 3 IsInt w9.heap u3 os) := SeqIn.chg HOT.out (T := fun _ => False) (Kept.any hk9) (fun _ _ _ _ x => x) fun _ _ _ x => x
              clear hk9
              cases mm with
              | true =>
                have HEE : Hid (readP b = (cs, os, 0)) := by show _ = _; rw [HE.out, HMM.out]; rfl
                go_wp2_with fail
                go_ret3
                rw [HEE.out]
                exact ⟨_, _, rfl, SeqIn.mono HCT9.out (fun k hk => Nat.le_trans hw5 hk) fun _ _ x => x, SeqIn.mono HOT9.out (fun k hk => Nat.le_trans hw5 hk) fun _ _ x => x, HK9.out⟩
              | false =>
                have HEE : Hid (readP b = ([], [], 4)) := by show _ = _; rw [HE.out, HMM.out]; rfl
                go_wp2_with fail
                go_ret3
                rw [HEE.out]
                exact GiveR.err HK9.out
end Go.Proofs.Yteandjophamipaa
