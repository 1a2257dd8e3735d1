/- The walk of the reference's one: the pack of some chunks. -/
import Derived.Test.YteandjophamipaaGOne
import Derived.Test.YteandjophamipaaPkW
import Derived.Test.YteandjophamipaaRefSums
import Derived.Test.YteandjophamipaaStageF
namespace Go.Proofs.Yteandjophamipaa
open Go.RowKit
attribute [local go_sem ↓] Go.wp_at_zero Go.wp_at_succ
theorem rdsum_any (s : ByteArray) (w : World) (hs : s.size ≤ 1000000) : Calls Try.prog 57 #[.string s] w fun e w' => e = .returned (.string (dgT s)) ∧ Keeps w w' := refsum_any s w hs
def rone7_I (wx : World) (N Bp : Nat) (vo : Value) (n : Nat) (xs : List Value) : Nat → (Nat → Value) → World → Prop
  | 0, _, w => Keeps wx w
  | 1, vs, w => ∃ w5, Keeps wx w5 ∧ w.ownsRow N 54 3 (vs 15) (n + 1) xs ∧ Chg (fun q => vo.ownBlock = some q) w5 w
  | _, _, w => ∃ w5 w6 pv qv, Keeps wx w5 ∧ w6.ownsRow N 54 3 (.slice pv (n + 1) qv) (n + 1) xs ∧ Chg (fun q => vo.ownBlock = some q) w5 w6 ∧ w = w6.setCell ⟨Bp, 3, none⟩ (.slice pv (n + 1) qv)
def rone7 (b off n qv b1 o1 q1 Bp k N0 : Nat) (s D : ByteArray) (ok : Int) (p : Value) : Nat → Value → World → Prop
  | 14, v, w => ∃ g, v = .slice (some ⟨g, 0, none⟩) 1 1 ∧ N0 ≤ g ∧ BlkAt w g 54 #[.string D, .int .i64 ok, .int .i64 (s.size : Int)]
  | 15, _, _ => True
  | 17, _, _ => True
  | i, v, _ => v = ([.pointer (some ⟨Bp, 3, none⟩), p, .pointer (some ⟨Bp, 1, none⟩), .string D, .slice (some ⟨b1, o1, none⟩) n q1, .int .i64 (k : Int), .pointer (some ⟨b1, o1 + k, none⟩), .int .i64 ok, .slice (some ⟨b, off, none⟩) n qv, .int .i64 (k : Int), .pointer (some ⟨b, off + k, none⟩), .string s, .int .i64 (s.size : Int), .agg #[.string D, .int .i64 ok, .int .i64 (s.size : Int)], undef, undef, .pointer (some ⟨Bp, 3, none⟩), undef] : List Value).getD i undef
theorem rone7_chg {b off n qv b1 o1 q1 Bp k N0 : Nat} {s D : ByteArray} {ok : Int} {p : Value} (i : Nat) (v : Value) (w w' : World) (c : Chg (fun b => b < N0) w w') (h : rone7 b off n qv b1 o1 q1 Bp k N0 s D ok p i v w) : rone7 b off n qv b1 o1 q1 Bp k N0 s D ok p i v w' := by
  match i, h with
  | 0, h => exact h
  | 1, h => exact h
  | 2, h => exact h
  | 3, h => exact h
  | 4, h => exact h
  | 5, h => exact h
  | 6, h => exact h
  | 7, h => exact h
  | 8, h => exact h
  | 9, h => exact h
  | 10, h => exact h
  | 11, h => exact h
  | 12, h => exact h
  | 13, h => exact h
  | 14, h => exact h.imp fun g h => ⟨h.1, h.2.1, h.2.2.chg c (Nat.not_lt.2 h.2.1)⟩
  | 15, h => exact h
  | 16, h => exact h
  | 17, h => exact h
  | _ + 18, h => exact h
theorem ne_rps : (46 : TypeId) ≠ 9 := by decide
theorem ne_rpp : (46 : TypeId) ≠ 54 := by decide
theorem ne_rpi : (46 : TypeId) ≠ 3 := by decide
set_option maxRecDepth 100000 in
set_option maxHeartbeats 4000000 in
theorem rone_any (v : Value) (l : List ByteArray) (w : World) (h : TextsAt w.heap v l) (hm : mayP l = true) : Calls Try.prog 48 #[v] w (GivePack w l) := by
  obtain ⟨pv, qv, rfl⟩ := seq_shape h
  have H := Lib.hid h
  obtain ⟨s1, s2, s3, s4⟩ := mayP_small hm
  have HS4 := Lib.hid s4
  have hsb := size_blob' hm
  have HM : Hid (makeP l = (strB (blobP l), offsP l, 0)) := by show _ = _; unfold makeP; rw [hm]; rfl
  have HDG : Hid (dgP l = dgT (strB (blobP l))) := rfl
  clear h hm s4
  generalize hB : strB (blobP l) = B at *
  have HB := Lib.hid hB
  clear hB
  have HU : Hid (∀ w1, GivePack w1 l = fun e w' => ∃ c p, e = .returned (.agg #[.string B, .string (dgT B), c, p]) ∧ IsPack (w1.heap.size ≤ ·) w'.heap [.string B, .string (dgT B), c, p] l ∧ Keeps w1 w') := by
    intro w1; unfold GivePack; rw [HDG.out, HB.out]
  have H1 : Hid (TextsAt (w.alloc (.cells #[.string ⟨#[]⟩, .string ⟨#[]⟩, .slice none 0 0, .slice none 0 0] 46)).heap (.slice pv l.length qv) l) := SeqAt.keeps H.out (kal w _)
  go_enter Try.func48, Try.ntmps48
  go_wp2_with fail
  refine Calls.mono (makeP_e (refpmake_any _ l _ H1.out) HM.out) ?_
  rintro e w1 ⟨v1, rfl, ho1, hk⟩
  have HO1 : Hid (SeqIn (fun _ => True) 3 IsInt w1.heap v1 (offsP l)) := ho1.mono (fun _ _ => trivial) fun _ _ x => x
  have HK1 : Hid (Keeps w w1) := (kal w _).trans hk
  have hz1 := hk.size
  have HR1 : Hid (BlkAt w1 w.heap.size 46 #[.string ⟨#[]⟩, .string ⟨#[]⟩, .slice none 0 0, .slice none 0 0]) := (BlkAt.new w _ _).keeps hk
  rw [World.size_alloc] at hz1
  clear ho1 hk H1
  go_wp2_with fail
  refine Calls.mono (rdsum_any B _ (by omega)) ?_
  rintro e w2 ⟨rfl, hk⟩
  have HO2 : Hid (SeqIn (fun _ => True) 3 IsInt w2.heap v1 (offsP l)) := HO1.out.chg (T := fun _ => False) (Kept.any hk) (fun _ _ _ _ x => x) fun _ _ _ x => x
  have HK2 := Lib.hid (HK1.out.trans hk)
  have HR2 := Lib.hid (HR1.out.keeps hk)
  have hz2 : w.heap.size + 1 ≤ w2.heap.size := Nat.le_trans hz1 hk.size
  clear hk HO1 HK1 HR1 hz1
  rw [← HDG.out]
  obtain ⟨p1, q1, rfl⟩ := seq_shape (SeqIn.at_ HO2.out)
  have HS0 : Hid (OneS 46 w (w2.alloc (.cells #[.string B, .string (dgP l), .slice none 0 0, .slice none 0 0] 46)) (w2.heap.size + 1) w2.heap.size B (dgP l) l 0 0 (.slice p1 (offsP l).length q1) (.slice none 0 0) (.slice none 0 0)) :=
    ⟨BlkAt.new w2 _ _, OwnSeq.nil _ _ _ _, OwnRec.nil _ _ _ _ _, HO2.out.chg (T := fun _ => False) (Kept.any (kal w2 _)) (fun _ _ _ _ x => x) fun _ _ _ x => x, HK2.out.trans (kal w2 _), by simp⟩
  have HR3 : Hid (BlkAt (w2.alloc (.cells #[.string B, .string (dgP l), .slice none 0 0, .slice none 0 0] 46)) w.heap.size 46 #[.string ⟨#[]⟩, .string ⟨#[]⟩, .slice none 0 0, .slice none 0 0]) := HR2.out.keeps (kal w2 _)
  have hoffl : (offsP l).length = l.length := by unfold offsP; simp
  rw [hoffl] at HS0
  rw [hoffl]
  clear HO2 hoffl
  generalize hD : dgP l = D at *
  have HD := Lib.hid hD
  clear hD
  go_wp2_with (refine wpList_store_row rfl 46 (.tmp 6) (.tmp 17) rfl w2.heap.size #[.string B, .string D, .slice none 0 0, .slice none 0 0] rfl rfl 46 _ (heap_alloc_last w2 _) (by kernel_rfl) rfl (packA_one B D none none 0 0 0 0) ?_; rw [World.setRow_alloc_new])
  go_loopw [7] (fun i wr => ∃ (k : Nat) (c p : Value), k ≤ l.length ∧ i = .int .i64 k ∧ Hid (OneS 46 w wr (w2.heap.size + 1) w2.heap.size B D l k k (.slice p1 l.length q1) c p) ∧ Hid (BlkAt wr w.heap.size 46 #[.string ⟨#[]⟩, .string ⟨#[]⟩, .slice none 0 0, .slice none 0 0])) (fun i _ => l.length - (intOf i).toNat)
  case atStart => exact ⟨0, _, _, by omega, rfl, HS0, HR3⟩
  case round =>
    clear HS0 HR3 HR2 HK2
    obtain ⟨k, c, p, hk, rfl, hS, hR⟩ := hrel
    by_cases hlt : k < l.length
    · have hlt64 : (k : Int) < (l.length : Int) := by omega
      have hk0 : (0 : Int) ≤ (k : Int) := by omega
      obtain ⟨b, off, cc, u, e5, d1, r1⟩ := seq_cell (SeqAt.keeps H.out hS.out.kp) hlt
      injection e5 with e6 e7 e8
      subst e6 e8
      unfold IsText at r1
      subst r1
      rw [← atP_get hlt] at d1
      have hsz := HS4.out k hlt
      generalize hs : atP l k = s at *
      have HS := Lib.hid hs
      clear e7 hs
      obtain ⟨us, hu1, hu2, hu3⟩ := hS.out.cs
      have hul : us.length = k := by rw [hu2]; simp; omega
      have HUO := Lib.hid hu1
      have HL2 := Lib.hid hu2
      have HL3 := Lib.hid hul
      have H3 := Lib.hid hu3
      have c2 : wr.cell? ⟨w2.heap.size, 2, none⟩ = some c := hS.out.blk.cell rfl
      have hszr := hS.out.sz
      clear hu1 hu2 hu3 hul
      go_upto_region 6 with (fail)
      go_cut [] (fun wx => ∃ c', Hid (OneS 46 w wx (w2.heap.size + 1) w2.heap.size B D l (k + 1) k (.slice p1 l.length q1) c' p) ∧ Hid (BlkAt wx w.heap.size 46 #[.string ⟨#[]⟩, .string ⟨#[]⟩, .slice none 0 0, .slice none 0 0]))
      case first =>
        go_region_law (first | (refine step_app1 elText rfl (.tmp 25) (.tmp 31) rfl (w2.heap.size + 1) c us (by simp [Act.eval]) (HU4.out.alloc _) _ (.string (dgT s)) (by simp [Act.eval]; try rfl) ?_ rfl (by have := HL3.out; omega) ?_ ?_; (first | exact World.cell?_alloc_new _ _ _ _ | simp [go_sem]); (simp; omega); intro v' w6 hown hchg; have HB6 := Lib.hid (BlkAt.past (HS4.out.keeps (kal w4 _)).blk (HU4.out.alloc _) ne_rps hchg); have HR6 := Lib.hid (BlkAt.past (HR4.out.keeps (kal w4 _)) (HU4.out.alloc _) ne_rps hchg); have c6 : w6.cell? ⟨w2.heap.size, 2, none⟩ = some c := HB6.out.cell rfl; have f6 := HB6.out.froz 2; obtain ⟨pv, qv, rfl⟩ := own_slice hown; have HO6 := Lib.hid hown; have HC6 := Lib.hid hchg; clear hown hchg) | (go_simp; go_at_call 57; refine Calls.mono (rdsum_any s _ (by omega)) ?_; rintro e w4 ⟨rfl, hk4⟩; have HS4 := Lib.hid (hS.out.keeps hk4); have HR4 := Lib.hid (hR.out.keeps hk4); have HU4 := Lib.hid (owns_chgK (T := fun _ => False) HUO.out (Kept.any hk4) fun _ _ x => x); have c24 : w4.cell? ⟨w2.heap.size, 2, none⟩ = some c := HS4.out.blk.cell rfl; have cA : ∀ o : Obj, (w4.alloc o).cell? ⟨w2.heap.size, 2, none⟩ = some c := fun o => (HS4.out.keeps (kal w4 o)).blk.cell rfl; have hsz4 := HS4.out.sz; have HK4 := Lib.hid hk4; clear hk4))
        all_goals
          go_wp2_with fail
          go_meet
          exact ⟨_, OneS.pushC ⟨ne_rps, ne_rpi⟩ (Nat.lt_succ_self _) (by omega) hS.out hlt HUO.out HL2.out H3.out (Keeps.trans HK4.out (kal w4 _)) (by rw [HS.out]; exact HO6.out) HC6.out, HR6.out.other (by omega) _⟩
      case rest =>
        obtain ⟨wx, rfl⟩ : ∃ wx : World, wx = wc := ⟨_, rfl⟩
        obtain ⟨c', HSX, HRX⟩ := hcut
        clear hS hR HUO HL2 HL3 H3 c2 hszr d1
        obtain ⟨us, hu1, hu2, hu3⟩ := HSX.out.ps
        have hul : us.length = k := by rw [hu2, List.length_take, places_length]; omega
        have HUO := Lib.hid hu1
        have HL2 := Lib.hid hu2
        have HL3 := Lib.hid hul
        have H3 := Lib.hid hu3
        have c3 : wx.cell? ⟨w2.heap.size, 3, none⟩ = some p := HSX.out.blk.cell rfl
        have c1 : wx.cell? ⟨w2.heap.size, 1, none⟩ = some (.string D) := HSX.out.blk.cell rfl
        have hszr := HSX.out.sz
        obtain ⟨b1, o1, cc1, u1, e5, d1, r1⟩ := seq_cell (SeqIn.at_ HSX.out.off) (i := k) (by unfold offsP; simp; omega)
        have hofl : (offsP l).length = l.length := by unfold offsP; simp
        rw [hofl] at e5
        injection e5 with e6 e7 e8
        subst e6 e8
        unfold IsInt at r1
        subst r1
        have hoe : (offsP l)[k]'(by rw [hofl]; exact hlt) = offP l k := by unfold offsP; simp
        rw [hoe] at d1
        clear e7 hofl hoe hu1 hu2 hu3 hul
        generalize ho : offP l k = ok at *
        have HOK := Lib.hid ho
        clear ho
        go_upto_region 7 with (fail)
        obtain ⟨u2, d2, r2⟩ := seq_at (SeqAt.keeps H.out HSX.out.kp) hlt
        unfold IsText at r2
        subst r2
        rw [← atP_get hlt, HS.out] at d2
        have HLT : Hid (∀ b, Value.ownBlock p = some b → b < wx.heap.size) := fun b hb => (own_blockK HUO.out b hb).2.1
        have HBP : Hid (w2.heap.size < wx.heap.size) := hszr
        refine wp_region_stageF [34, 35, 36, 37, 38, 39, 40, 41, 42, 43, 44, 45, 46, 47, 48, 49, 50, 10017] [[], [0], [], [2], [], [], [4, 5], [6], [], [], [8, 9], [10], [11], [3, 7, 12], [13], [1, 14], [15], [15, 16]] [15, 17] [0, 0, 0, 0, 0, 0, 0, 0, 0, 0, 0, 0, 0, 0, 0, 0, 1, 1] [] [] [17] (rone7 b off l.length qv b1 o1 q1 w2.heap.size k wx.heap.size s D ok p) (fun w w' => Chg (fun b => b < wx.heap.size) w w') (rone7_I wx (w2.heap.size + 1) (w2.heap.size) (p) us.length ((us.flatten ++ ([.string D, .int .i64 ok, .int .i64 (s.size : Int)] : List Value)))) (by kernel_rfl) (by kernel_rfl) (by kernel_rfl) (by kernel_rfl) (by kernel_rfl) (by kernel_rfl) (by kernel_rfl) ?_ ?_ ?_ ?_ ?_ ?_ ?_
        · exact fun i v w w' c h => rone7_chg i v w w' c h
        · exact fun w => Chg.refl _ w
        · exact fun i s vs w h => by cases h
        · refine ⟨?_, ?_, ?_, ?_, ?_, ?_, ?_, ?_, ?_, ?_, ?_, ?_, ?_, ?_, ?_, ?_, ?_, ?_, trivial⟩
          · exact fun g b h => by (cases h)
          · exact fun g b h => by (cases h)
          · exact fun g b h => by (cases h)
          · exact fun g b h => by (cases h)
          · exact fun g b h => by (cases h)
          · exact fun g b h => by (cases h)
          · exact fun g b h => by (cases h)
          · exact fun g b h => by (cases h)
          · exact fun g b h => by (cases h)
          · exact fun g b h => by (cases h)
          · exact fun g b h => by (cases h)
          · exact fun g b h => by (cases h)
          · exact fun g b h => by (cases h)
          · exact fun g b h => by (cases h)
          · exact fun g b h => by (cases h)
          · exact fun g b h => by (cases h)
          · exact fun g b h => by (cases h)
          · exact fun g b h => by (cases h)
        · exact fun _ _ => keeps_refl wx
        · refine ⟨?_, ?_, ?_, ?_, ?_, ?_, ?_, ?_, ?_, ?_, ?_, ?_, ?_, ?_, ?_, ?_, ?_, ?_, trivial⟩
          · intro _ s hs a w1 vs hI ho hn hu K hK
            obtain rfl : s = 0 := hs rfl
            clear hs
            have e6 : a.tmps[6]? = some (.pointer (some ⟨w2.heap.size, 0, none⟩)) := ho 6 rfl
            clear hn ho hu
            have hI : Keeps wx w1 := hI
            go_simp
            exact hK _ _ (Chg.refl _ _) hI rfl
          · intro _ s hs a w1 vs hI ho hn hu K hK
            obtain rfl : s = 0 := hs rfl
            clear hs
            obtain ⟨e34, g34⟩ : a.tmps[34]? = some (vs 0) ∧ vs 0 = .pointer (some ⟨w2.heap.size, 3, none⟩) := ⟨(hn 0 (by decide)).1 (by decide), (hn 0 (by decide)).2⟩
            rw [g34] at e34
            clear g34
            clear hn ho hu
            have hI : Keeps wx w1 := hI
            have c := keeps_cell hI c3
            go_simp
            exact hK _ _ (Chg.refl _ _) hI rfl
          · intro _ s hs a w1 vs hI ho hn hu K hK
            obtain rfl : s = 0 := hs rfl
            clear hs
            have e6 : a.tmps[6]? = some (.pointer (some ⟨w2.heap.size, 0, none⟩)) := ho 6 rfl
            clear hn ho hu
            have hI : Keeps wx w1 := hI
            go_simp
            exact hK _ _ (Chg.refl _ _) hI rfl
          · intro _ s hs a w1 vs hI ho hn hu K hK
            obtain rfl : s = 0 := hs rfl
            clear hs
            obtain ⟨e36, g36⟩ : a.tmps[36]? = some (vs 2) ∧ vs 2 = .pointer (some ⟨w2.heap.size, 1, none⟩) := ⟨(hn 2 (by decide)).1 (by decide), (hn 2 (by decide)).2⟩
            rw [g36] at e36
            clear g36
            clear hn ho hu
            have hI : Keeps wx w1 := hI
            have c := keeps_cell hI c1
            go_simp
            exact hK _ _ (Chg.refl _ _) hI rfl
          · intro _ s hs a w1 vs hI ho hn hu K hK
            obtain rfl : s = 0 := hs rfl
            clear hs
            have e4 : a.tmps[4]? = some (.slice (some ⟨b1, o1, none⟩) l.length q1) := ho 4 rfl
            clear hn ho hu
            have hI : Keeps wx w1 := hI
            go_simp
            exact hK _ _ (Chg.refl _ _) hI rfl
          · intro _ s hs a w1 vs hI ho hn hu K hK
            obtain rfl : s = 0 := hs rfl
            clear hs
            have e7 : a.tmps[7]? = some (.int .i64 (k : Int)) := ho 7 rfl
            clear hn ho hu
            have hI : Keeps wx w1 := hI
            go_simp
            exact hK _ _ (Chg.refl _ _) hI rfl
          · intro _ s hs a w1 vs hI ho hn hu K hK
            obtain rfl : s = 0 := hs rfl
            clear hs
            obtain ⟨e38, g38⟩ : a.tmps[38]? = some (vs 4) ∧ vs 4 = .slice (some ⟨b1, o1, none⟩) l.length q1 := ⟨(hn 4 (by decide)).1 (by decide), (hn 4 (by decide)).2⟩
            rw [g38] at e38
            clear g38
            obtain ⟨e39, g39⟩ : a.tmps[39]? = some (vs 5) ∧ vs 5 = .int .i64 (k : Int) := ⟨(hn 5 (by decide)).1 (by decide), (hn 5 (by decide)).2⟩
            rw [g39] at e39
            clear g39
            clear hn ho hu
            have hI : Keeps wx w1 := hI
            go_simp
            exact hK _ _ (Chg.refl _ _) hI rfl
          · intro _ s hs a w1 vs hI ho hn hu K hK
            obtain rfl : s = 0 := hs rfl
            clear hs
            obtain ⟨e40, g40⟩ : a.tmps[40]? = some (vs 6) ∧ vs 6 = .pointer (some ⟨b1, o1 + k, none⟩) := ⟨(hn 6 (by decide)).1 (by decide), (hn 6 (by decide)).2⟩
            rw [g40] at e40
            clear g40
            clear hn ho hu
            have hI : Keeps wx w1 := hI
            have c := keeps_cell hI d1
            go_simp
            exact hK _ _ (Chg.refl _ _) hI rfl
          · intro _ s hs a w1 vs hI ho hn hu K hK
            obtain rfl : s = 0 := hs rfl
            clear hs
            have e0 : a.tmps[0]? = some (.slice (some ⟨b, off, none⟩) l.length qv) := ho 0 rfl
            clear hn ho hu
            have hI : Keeps wx w1 := hI
            go_simp
            exact hK _ _ (Chg.refl _ _) hI rfl
          · intro _ s hs a w1 vs hI ho hn hu K hK
            obtain rfl : s = 0 := hs rfl
            clear hs
            have e7 : a.tmps[7]? = some (.int .i64 (k : Int)) := ho 7 rfl
            clear hn ho hu
            have hI : Keeps wx w1 := hI
            go_simp
            exact hK _ _ (Chg.refl _ _) hI rfl
          · intro _ s hs a w1 vs hI ho hn hu K hK
            obtain rfl : s = 0 := hs rfl
            clear hs
            obtain ⟨e42, g42⟩ : a.tmps[42]? = some (vs 8) ∧ vs 8 = .slice (some ⟨b, off, none⟩) l.length qv := ⟨(hn 8 (by decide)).1 (by decide), (hn 8 (by decide)).2⟩
            rw [g42] at e42
            clear g42
            obtain ⟨e43, g43⟩ : a.tmps[43]? = some (vs 9) ∧ vs 9 = .int .i64 (k : Int) := ⟨(hn 9 (by decide)).1 (by decide), (hn 9 (by decide)).2⟩
            rw [g43] at e43
            clear g43
            clear hn ho hu
            have hI : Keeps wx w1 := hI
            go_simp
            exact hK _ _ (Chg.refl _ _) hI rfl
          · intro _ s hs a w1 vs hI ho hn hu K hK
            obtain rfl : s = 0 := hs rfl
            clear hs
            obtain ⟨e44, g44⟩ : a.tmps[44]? = some (vs 10) ∧ vs 10 = .pointer (some ⟨b, off + k, none⟩) := ⟨(hn 10 (by decide)).1 (by decide), (hn 10 (by decide)).2⟩
            rw [g44] at e44
            clear g44
            clear hn ho hu
            have hI : Keeps wx w1 := hI
            have c := keeps_cell hI d2
            go_simp
            exact hK _ _ (Chg.refl _ _) hI rfl
          · intro _ s hs a w1 vs hI ho hn hu K hK
            obtain rfl : s = 0 := hs rfl
            clear hs
            obtain ⟨e45, g45⟩ : a.tmps[45]? = some (vs 11) ∧ vs 11 = .string s := ⟨(hn 11 (by decide)).1 (by decide), (hn 11 (by decide)).2⟩
            rw [g45] at e45
            clear g45
            clear hn ho hu
            have hI : Keeps wx w1 := hI
            go_simp
            exact hK _ _ (Chg.refl _ _) hI rfl
          · intro _ s hs a w1 vs hI ho hn hu K hK
            obtain rfl : s = 0 := hs rfl
            clear hs
            obtain ⟨e37, g37⟩ : a.tmps[37]? = some (vs 3) ∧ vs 3 = .string D := ⟨(hn 3 (by decide)).1 (by decide), (hn 3 (by decide)).2⟩
            rw [g37] at e37
            clear g37
            obtain ⟨e41, g41⟩ : a.tmps[41]? = some (vs 7) ∧ vs 7 = .int .i64 ok := ⟨(hn 7 (by decide)).1 (by decide), (hn 7 (by decide)).2⟩
            rw [g41] at e41
            clear g41
            obtain ⟨e46, g46⟩ : a.tmps[46]? = some (vs 12) ∧ vs 12 = .int .i64 (s.size : Int) := ⟨(hn 12 (by decide)).1 (by decide), (hn 12 (by decide)).2⟩
            rw [g46] at e46
            clear g46
            clear hn ho hu
            have hI : Keeps wx w1 := hI
            go_simp
            exact hK _ _ (Chg.refl _ _) hI rfl
          · intro _ s hs a w1 vs hI ho hn hu K hK
            obtain rfl : s = 0 := hs rfl
            clear hs
            obtain ⟨e47, g47⟩ : a.tmps[47]? = some (vs 13) ∧ vs 13 = .agg #[.string D, .int .i64 ok, .int .i64 (s.size : Int)] := ⟨(hn 13 (by decide)).1 (by decide), (hn 13 (by decide)).2⟩
            rw [g47] at e47
            clear g47
            clear hn ho hu
            have hI : Keeps wx w1 := hI
            go_simp
            exact hK _ _ (Kept.any (kal _ _)) (Keeps.trans hI (kal _ _)) ⟨_, rfl, hI.size, BlkAt.new _ _ _⟩
          · intro _ s hs a w1 vs hI ho hn hu K hK
            obtain rfl : s = 0 := hs rfl
            clear hs
            obtain ⟨e35, g35⟩ : a.tmps[35]? = some (vs 1) ∧ vs 1 = p := ⟨(hn 1 (by decide)).1 (by decide), (hn 1 (by decide)).2⟩
            rw [g35] at e35
            clear g35
            obtain ⟨e48, g48⟩ : a.tmps[48]? = some (vs 14) ∧ ∃ g, (vs 14) = .slice (some ⟨g, 0, none⟩) 1 1 ∧ wx.heap.size ≤ g ∧ BlkAt w1 g 54 #[.string D, .int .i64 ok, .int .i64 (s.size : Int)] := ⟨(hn 14 (by decide)).1 (by decide), (hn 14 (by decide)).2⟩
            clear hn ho hu
            have hI : Keeps wx w1 := hI
            obtain ⟨g, e9, hg, gb⟩ := g48
            rw [e9] at e48
            refine oper_appr1 elPlace rfl (.tmp 35) (.tmp 48) rfl (w2.heap.size + 1) p us.length us.flatten (by simp [Act.eval, e35]) (owns_chgK (T := fun _ => False) HUO.out (Kept.any hI) fun _ _ x => x) g [.string D, .int .i64 ok, .int .i64 (s.size : Int)] (by simp [Act.eval, e48]) rfl (blk_cells gb) (by intro y hy; simp at hy; rcases hy with rfl | rfl | rfl <;> rfl) (by have := HL3.out; omega) (Nat.le_trans HSX.out.sz hI.size) ?_
            intro v' w' ho hc
            exact hK v' w' (hc.mono fun b _ hb => HLT.out b hb) ⟨w1, hI, by rw [upd_self]; exact ho, hc⟩ trivial
          · intro _ s hs a w1 vs hI ho hn hu K hK
            obtain rfl : s = 1 := hs rfl
            clear hs
            have e6 : a.tmps[6]? = some (.pointer (some ⟨w2.heap.size, 0, none⟩)) := ho 6 rfl
            clear hn ho hu
            have hI : ∃ w5, Keeps wx w5 ∧ w1.ownsRow (w2.heap.size + 1) 54 3 (vs 15) (us.length + 1) (us.flatten ++ ([.string D, .int .i64 ok, .int .i64 (s.size : Int)] : List Value)) ∧ Chg (fun q => Value.ownBlock p = some q) w5 w1 := hI
            go_simp
            exact hK _ _ (Chg.refl _ _) hI rfl
          · intro _ s hs a w1 vs hI ho hn hu K hK
            obtain rfl : s = 1 := hs rfl
            clear hs
            obtain ⟨e49, g49⟩ : a.tmps[49]? = some (vs 15) ∧ True := ⟨(hn 15 (by decide)).1 (by decide), (hn 15 (by decide)).2⟩
            obtain ⟨e50, g50⟩ : a.tmps[50]? = some (vs 16) ∧ vs 16 = .pointer (some ⟨w2.heap.size, 3, none⟩) := ⟨(hn 16 (by decide)).1 (by decide), (hn 16 (by decide)).2⟩
            rw [g50] at e50
            clear g50
            clear hn ho hu
            have hI : ∃ w5, Keeps wx w5 ∧ w1.ownsRow (w2.heap.size + 1) 54 3 (vs 15) (us.length + 1) (us.flatten ++ ([.string D, .int .i64 ok, .int .i64 (s.size : Int)] : List Value)) ∧ Chg (fun q => Value.ownBlock p = some q) w5 w1 := hI
            obtain ⟨w5, h5, ho, hc⟩ := hI
            obtain ⟨pv, qv, e9⟩ := own_sliceK ho
            rw [e9] at e49 ho
            have HB6 := BlkAt.past (HSX.out.keeps h5).blk (owns_chgK (T := fun _ => False) HUO.out (Kept.any h5) fun _ _ x => x) ne_rpp hc
            have c6 := HB6.cell (i := 3) rfl
            have f6 := HB6.froz 3
            go_simp
            exact hK undef _ ((chg_set _ _ _ (.slice pv (us.length + 1) qv)).mono fun b _ e => by subst e; exact HBP.out) ⟨w5, _, pv, qv, h5, ho, hc, rfl⟩ trivial
        · intro vs w7 hI hG
          obtain ⟨w5, w6, pv, qv, h5, ho, hc, rfl⟩ : ∃ (w5 w6 : World) (pv : Option Addr) (qv : Nat), Keeps wx w5 ∧ w6.ownsRow (w2.heap.size + 1) 54 3 (.slice pv (us.length + 1) qv) (us.length + 1) (us.flatten ++ ([.string D, .int .i64 ok, .int .i64 (s.size : Int)] : List Value)) ∧ Chg (fun q => Value.ownBlock p = some q) w5 w6 ∧ w7 = w6.setCell ⟨w2.heap.size, 3, none⟩ (.slice pv (us.length + 1) qv) := hI
          clear hG
          simp only [setAll, Nat.zero_add, Nat.reduceAdd, List.setIfInBounds_toArray, List.set_cons_zero, List.set_cons_succ]
          generalize vs 0 = y0 at *
          generalize vs 1 = y1 at *
          generalize vs 2 = y2 at *
          generalize vs 3 = y3 at *
          generalize vs 4 = y4 at *
          generalize vs 5 = y5 at *
          generalize vs 6 = y6 at *
          generalize vs 7 = y7 at *
          generalize vs 8 = y8 at *
          generalize vs 9 = y9 at *
          generalize vs 10 = y10 at *
          generalize vs 11 = y11 at *
          generalize vs 12 = y12 at *
          generalize vs 13 = y13 at *
          generalize vs 14 = y14 at *
          generalize vs 15 = y15 at *
          generalize vs 16 = y16 at *
          generalize vs 17 = y17 at *
          have HF : Hid (OneS 46 w (w6.setCell ⟨w2.heap.size, 3, none⟩ (.slice pv (us.length + 1) qv)) (w2.heap.size + 1) w2.heap.size B D l (k + 1) (k + 1) (.slice (some ⟨b1, o1, none⟩) l.length q1) c' (.slice pv (us.length + 1) qv)) := OneS.pushP HD.out ⟨ne_rpp, ne_rpi⟩ (Nat.lt_succ_self _) (by omega) HSX.out hlt HUO.out HL2.out H3.out h5 (by rw [HS.out, HOK.out]; exact ho) hc
          have HRF : Hid (BlkAt (w6.setCell ⟨w2.heap.size, 3, none⟩ (.slice pv (us.length + 1) qv)) w.heap.size 46 #[.string ⟨#[]⟩, .string ⟨#[]⟩, .slice none 0 0, .slice none 0 0]) := (BlkAt.past (HRX.out.keeps h5) (owns_chgK (T := fun _ => False) HUO.out (Kept.any h5) fun _ _ x => x) ne_rpp hc).other (by omega) _
          clear h5 ho hc HUO HL2 H3 c1 c3 d1 d2 HLT HBP HSX HRX
          go_wp2
          exact ⟨⟨k + 1, _, _, by omega, by go_num, HF, HRF⟩, by simp [intOf]; omega⟩
    · obtain rfl : k = l.length := by omega
      obtain ⟨us, hu1, hu2, hu3⟩ := hS.out.cs
      obtain ⟨vs, hv1, hv2, hv3⟩ := hS.out.ps
      obtain ⟨pc, qc, rfl⟩ := own_slice hu1
      obtain ⟨pp, qp, rfl⟩ := own_sliceK hv1
      have HBK := Lib.hid hS.out.blk
      have HCS := Lib.hid (hS.out.cs.seq (by simp; omega))
      have HPS := Lib.hid (hS.out.ps.seq (by rw [List.length_take, places_length]; omega))
      have hs1 := hS.out.kp.size
      clear hu1 hu2 hu3 hv1 hv2 hv3
      go_wp2_with (first | (refine wpList_load_row rfl 46 (.tmp 6) rfl w2.heap.size rfl 46 _ (0, 0) _ HBK.out Try.underlying46 rfl (by kernel_rfl) ?_) | (refine wpList_store_row rfl 46 (.tmp 2) (.tmp 51) rfl w.heap.size _ rfl rfl 46 _ hR.out (by kernel_rfl) rfl (packA_one B D pc pp us.length vs.length qc qp) ?_))
      have hT := chg_row wr w.heap.size #[.string B, .string D, .slice pc us.length qc, .slice pp vs.length qp]
      refine bodyPost_ret (v := .agg #[.string B, .string D, .slice pc us.length qc, .slice pp vs.length qp]) (results_cell_row rfl _ _ w.heap.size 46 (#[.string B, .string D, .slice pc us.length qc, .slice pp vs.length qp] : Array Value) (0, 0) _ rfl (setRow_heap wr _ _ _ _ _ hR.out) Try.underlying46 rfl (by kernel_rfl)) rfl ?_
      rw [HU.out w, ← HDG.out]
      rw [List.take_length] at HCS
      have hpl : (placesP l).take l.length = placesP l := List.take_of_length_le (by rw [places_length]; omega)
      rw [hpl] at HPS
      refine ⟨_, _, rfl, ⟨_, _, by rw [HB.out, HD.out], ?_, ?_⟩, ?_⟩
      · exact (SeqIn.mono HCS.out (fun b hb => (by omega : w.heap.size ≤ b)) fun _ _ x => x).chg hT (fun b _ _ ht e => by subst e; rw [hR.out.typ] at ht; exact absurd (Option.some.inj ht) ne_rps) fun _ _ _ x => x
      · exact (RecIn.mono HPS.out (fun b hb => (by omega : w.heap.size ≤ b)) fun _ _ x => x).chg hT (fun b _ _ ht e => by subst e; rw [hR.out.typ] at ht; exact absurd (Option.some.inj ht) ne_rpp) fun _ _ _ x => x
      · exact hS.out.kp.then (chg_kept (B := w.heap.size) hT (fun q _ e => by omega) hs1) (Nat.le_refl _)
end Go.Proofs.Yteandjophamipaa
