/- The walk of packer.one: the pack of some chunks. -/
import Derived.Test.YteandjophamipaaGSpec
import Derived.Test.YteandjophamipaaPackLaw
import Derived.Test.YteandjophamipaaShaB
import Derived.Deep.DrawnRows
import Derived.Deep.Cut
import Derived.Deep.RegionLaw
namespace Go.Proofs.Yteandjophamipaa
open Go.RowKit
attribute [local go_sem ↓] Go.wp_at_zero Go.wp_at_succ
theorem dsum_any (s : ByteArray) (w : World) (hs : s.size ≤ 70368744177664) : Calls Try.prog 34 #[.string s] w fun e w' => e = .returned (.string (dgT s)) ∧ Keeps w w' := ssum_any s w hs
/-- What `one` tells. -/
def GivePack (w : World) (g : List ByteArray) (e : Ending) (w' : World) : Prop := ∃ c p, e = .returned (.agg #[.string (strB (blobP g)), .string (dgP g), c, p]) ∧ IsPack (w.heap.size ≤ ·) w'.heap [.string (strB (blobP g)), .string (dgP g), c, p] g ∧ Keeps w w'
/-- The state while a pack is made: the block of the struct, its two rows. -/
structure OneS (E : TypeId) (w wr : World) (N Bp : Nat) (B D : ByteArray) (l : List ByteArray) (kc kq : Nat) (v1 c p : Value) : Prop where
  blk : BlkAt wr Bp E #[.string B, .string D, c, p]
  cs : OwnSeq N 9 IsText wr c ((l.take kc).map dgT)
  ps : OwnRec N 54 3 IsPlace wr p ((placesP l).take kq)
  off : SeqIn (fun _ => True) 3 IsInt wr.heap v1 (offsP l)
  kp : Keeps w wr
  sz : N ≤ wr.heap.size
theorem OneS.keeps {E : TypeId} {w wr wx : World} {N Bp : Nat} {B D : ByteArray} {l : List ByteArray} {kc kq : Nat} {v1 c p : Value} (h : OneS E w wr N Bp B D l kc kq v1 c p) (k : Keeps wr wx) : OneS E w wx N Bp B D l kc kq v1 c p :=
  ⟨h.blk.keeps k, h.cs.chg (T := fun _ => False) (Kept.any k) (fun _ _ x => x) fun _ _ _ x => x, h.ps.keeps k fun _ _ _ x => x, h.off.chg (T := fun _ => False) (Kept.any k) (fun _ _ _ _ x => x) fun _ _ _ x => x, h.kp.trans k, Nat.le_trans h.sz k.size⟩
theorem own_type {base : Nat} {E : TypeId} {w : World} {v : Value} {us : List Value} {k n : Nat} (h : w.ownsRow base E k v n us) {b : Nat} {F : TypeId} (hb : typH w.heap b = some F) (hn : F ≠ E) : v.ownBlock ≠ some b := fun e => by
  have := (own_blockK h b e).2.2
  rw [hb] at this
  exact hn (Option.some.inj this)
theorem BlkAt.past {wx w6 : World} {b base k n : Nat} {F E : TypeId} {cs : Array Value} {v : Value} {us : List Value} (h : BlkAt wx b F cs) (h0 : wx.ownsRow base E k v n us) (hne : F ≠ E) (hc : Chg (fun b => v.ownBlock = some b) wx w6) : BlkAt w6 b F cs := h.chg hc (own_type h0 h.typ hne)
theorem OneS.pushC {E : TypeId} {w wr wx w6 : World} {N Bp : Nat} {B D : ByteArray} {l : List ByteArray} {k kq : Nat} {v1 c p v' : Value} {us : List Value} (hE : E ≠ 9 ∧ E ≠ 3) (hNB : Bp < N) (hB : w.heap.size ≤ Bp) (h : OneS E w wr N Bp B D l k kq v1 c p)
    (hk : k < l.length) (h0 : wr.ownsRow N 9 1 c us.length us) (h1 : us.length = ((l.take k).map dgT).length) (h2 : ∀ i (h : i < us.length) (h' : i < ((l.take k).map dgT).length), IsText us[i] ((l.take k).map dgT)[i])
    (hx : Keeps wr wx) (h3 : w6.ownsRow N 9 1 v' (us.length + 1) (us ++ [.string (dgT (atP l k))])) (hc0 : Chg (fun b => c.ownBlock = some b) wx w6) : OneS E w (w6.setCell ⟨Bp, 2, none⟩ v') N Bp B D l (k + 1) kq v1 v' p := by
  have hc : Chg (fun b => c.ownBlock = some b) wr w6 := (Kept.any hx).trans hc0
  have hBt := h.blk.typ
  have hnb : ¬ c.ownBlock = some Bp := own_type h0 hBt hE.1
  have hb6 : BlkAt w6 Bp E #[.string B, .string D, c, p] := h.blk.chg hc hnb
  have hcs := chg_set w6 Bp 2 v'
  have hT : Chg (fun b => c.ownBlock = some b ∨ b = Bp) wr (w6.setCell ⟨Bp, 2, none⟩ v') := (hc.mono fun _ _ => .inl).trans (hcs.mono fun _ _ => .inr)
  refine ⟨by simpa using hb6.set 2 v', ?_, ?_, ?_, ?_, ?_⟩
  · rw [dgs_take hk]
    exact (OwnSeq.push (R := IsText) (R' := IsText) h1 h2 h3 (fun _ _ _ x => x) rfl).chg hcs (fun b hb e => by
      have := (own_blockK (show w6.ownsRow N 9 1 v' _ _ from h3) b hb).1
      omega) fun _ _ _ x => x
  · exact h.ps.chg hT (fun q hq _ ht e => e.elim (own_type h0 ht (by decide)) (by omega)) fun _ _ _ x => x
  · refine h.off.chg hT (fun b _ _ ht e => e.elim (own_type h0 ht (by decide)) fun e => ?_) fun _ _ _ x => x
    subst e
    rw [hBt] at ht
    exact hE.2 (Option.some.inj ht)
  · refine h.kp.then (chg_kept (B := w.heap.size) hT (fun q _ e => ?_) (h.kp.size)) (Nat.le_refl _)
    rcases e with e | e
    · have := (own_block h0 q e).1; omega
    · omega
  · rw [World.size_setCell]; exact Nat.le_trans h.sz hc.size
theorem OneS.pushP {E : TypeId} {w wr wx w6 : World} {N Bp : Nat} {B : ByteArray} {l : List ByteArray} {D : ByteArray} {k kc : Nat} {v1 c p v' : Value} {us : List (List Value)} (hD : dgP l = D) (hE : E ≠ 54 ∧ E ≠ 3) (hNB : Bp < N) (hB : w.heap.size ≤ Bp) (h : OneS E w wr N Bp B D l kc k v1 c p)
    (hk : k < l.length) (h0 : wr.ownsRow N 54 3 p us.length us.flatten) (h1 : us.length = ((placesP l).take k).length) (h2 : ∀ i (h : i < us.length) (h' : i < ((placesP l).take k).length), us[i].length = 3 ∧ IsPlace us[i] ((placesP l).take k)[i])
    (hx : Keeps wr wx) (h3 : w6.ownsRow N 54 3 v' (us.length + 1) (us.flatten ++ [.string D, .int .i64 (offP l k), .int .i64 ((atP l k).size : Int)])) (hc0 : Chg (fun b => p.ownBlock = some b) wx w6) : OneS E w (w6.setCell ⟨Bp, 3, none⟩ v') N Bp B D l kc (k + 1) v1 c v' := by
  subst hD
  have hc : Chg (fun b => p.ownBlock = some b) wr w6 := (Kept.any hx).trans hc0
  have hBt := h.blk.typ
  have hnb : ¬ p.ownBlock = some Bp := own_type h0 hBt hE.1
  have hb6 : BlkAt w6 Bp E #[.string B, .string (dgP l), c, p] := h.blk.chg hc hnb
  have hcs := chg_set w6 Bp 3 v'
  have hT : Chg (fun b => p.ownBlock = some b ∨ b = Bp) wr (w6.setCell ⟨Bp, 3, none⟩ v') := (hc.mono fun _ _ => .inl).trans (hcs.mono fun _ _ => .inr)
  refine ⟨by simpa using hb6.set 3 v', ?_, ?_, ?_, ?_, ?_⟩
  · exact h.cs.chg hT (fun q hq e => by
      obtain ⟨us', hu, _⟩ := h.cs
      obtain ⟨q1, _, q2⟩ := own_block hu q hq
      exact e.elim (own_type h0 q2 (by decide)) (by omega)) fun _ _ _ x => x
  · rw [places_take hk]
    exact (OwnRec.push (R := IsPlace) (R' := IsPlace) h1 h2 h3 (fun _ _ _ x => x) rfl (show IsPlace _ (placeP l k) from rfl)).chg hcs (fun b hb _ _ e => by omega) fun _ _ _ x => x
  · refine h.off.chg hT (fun b _ _ ht e => e.elim (own_type h0 ht (by decide)) fun e => ?_) fun _ _ _ x => x
    subst e
    rw [hBt] at ht
    exact hE.2 (Option.some.inj ht)
  · refine h.kp.then (chg_kept (B := w.heap.size) hT (fun q _ e => ?_) (h.kp.size)) (Nat.le_refl _)
    rcases e with e | e
    · have := (own_blockK h0 q e).1; omega
    · omega
  · rw [World.size_setCell]; exact Nat.le_trans h.sz hc.size
theorem own_sliceK {w : World} {base : Nat} {E : TypeId} {v : Value} {k n : Nat} {us : List Value} (h : w.ownsRow base E k v n us) : ∃ p c, v = .slice p n c := by
  rcases h.2 with ⟨rfl, hn⟩ | ⟨g, cap, cur, rfl, _⟩
  · exact ⟨none, 0, by rw [hn]⟩
  · exact ⟨_, _, rfl⟩
theorem packA_one (B D : ByteArray) (a b : Option Addr) (m n q r : Nat) : (#[.string B, .string D, .slice a m q, .slice b n r] : Array Value).all (·.oneCell') = true := by
  apply Array.all_eq_true_iff_forall_mem.2
  intro v hv
  simp at hv
  rcases hv with rfl | rfl | rfl | rfl <;> rfl
theorem size_blob' {l : List ByteArray} (h : mayP l = true) : (strB (blobP l)).size ≤ 30000 := by
  obtain ⟨s1, s2, s3, _⟩ := mayP_small h
  rw [strB_size]
  have : (blobP l).length = 6 + 2 * l.length + total l := by unfold blobP; rw [List.length_append, headP_length, joinP_length]
  omega
theorem ne_ps : (50 : TypeId) ≠ 9 := by decide
theorem ne_pp : (50 : TypeId) ≠ 54 := by decide
theorem ne_pi : (50 : TypeId) ≠ 3 := by decide
set_option maxRecDepth 100000 in
set_option maxHeartbeats 4000000 in
theorem pone_any (v : Value) (l : List ByteArray) (w : World) (h : TextsAt w.heap v l) (hm : mayP l = true) : Calls Try.prog 47 #[v] w (GivePack w l) := by
  obtain ⟨pv, qv, rfl⟩ := seq_shape h
  have H := Lib.hid h
  obtain ⟨s1, s2, s3, s4⟩ := mayP_small hm
  have HS4 := Lib.hid s4
  have hsb := size_blob' hm
  have HM : Hid (makeP l = (strB (blobP l), offsP l, 0)) := by show _ = _; unfold makeP; rw [hm]; rfl
  have HDG : Hid (dgP l = dgT (strB (blobP l))) := rfl
  clear h hm s4
  generalize hB : strB (blobP l) = B at *
  have HB := Lib.hid hB
  clear hB
  have HU : Hid (∀ w1, GivePack w1 l = fun e w' => ∃ c p, e = .returned (.agg #[.string B, .string (dgT B), c, p]) ∧ IsPack (w1.heap.size ≤ ·) w'.heap [.string B, .string (dgT B), c, p] l ∧ Keeps w1 w') := by
    intro w1; unfold GivePack; rw [HDG.out, HB.out]
  have H1 : Hid (TextsAt (w.alloc (.cells #[.string ⟨#[]⟩, .string ⟨#[]⟩, .slice none 0 0, .slice none 0 0] 50)).heap (.slice pv l.length qv) l) := SeqAt.keeps H.out (kal w _)
  go_enter Try.func47, Try.ntmps47
  go_wp2_with fail
  refine Calls.mono (makeP_e (pmake_any _ l _ H1.out) HM.out) ?_
  rintro e w1 ⟨v1, rfl, ho1, hk⟩
  have HO1 : Hid (SeqIn (fun _ => True) 3 IsInt w1.heap v1 (offsP l)) := ho1.mono (fun _ _ => trivial) fun _ _ x => x
  have HK1 : Hid (Keeps w w1) := (kal w _).trans hk
  have hz1 := hk.size
  have HR1 : Hid (BlkAt w1 w.heap.size 50 #[.string ⟨#[]⟩, .string ⟨#[]⟩, .slice none 0 0, .slice none 0 0]) := (BlkAt.new w _ _).keeps hk
  rw [World.size_alloc] at hz1
  clear ho1 hk H1
  go_wp2_with fail
  refine Calls.mono (dsum_any B _ (by omega)) ?_
  rintro e w2 ⟨rfl, hk⟩
  have HO2 : Hid (SeqIn (fun _ => True) 3 IsInt w2.heap v1 (offsP l)) := HO1.out.chg (T := fun _ => False) (Kept.any hk) (fun _ _ _ _ x => x) fun _ _ _ x => x
  have HK2 := Lib.hid (HK1.out.trans hk)
  have HR2 := Lib.hid (HR1.out.keeps hk)
  have hz2 : w.heap.size + 1 ≤ w2.heap.size := Nat.le_trans hz1 hk.size
  clear hk HO1 HK1 HR1 hz1
  rw [← HDG.out]
  obtain ⟨p1, q1, rfl⟩ := seq_shape (SeqIn.at_ HO2.out)
  have HS0 : Hid (OneS 50 w (w2.alloc (.cells #[.string B, .string (dgP l), .slice none 0 0, .slice none 0 0] 50)) (w2.heap.size + 1) w2.heap.size B (dgP l) l 0 0 (.slice p1 (offsP l).length q1) (.slice none 0 0) (.slice none 0 0)) :=
    ⟨BlkAt.new w2 _ _, OwnSeq.nil _ _ _ _, OwnRec.nil _ _ _ _ _, HO2.out.chg (T := fun _ => False) (Kept.any (kal w2 _)) (fun _ _ _ _ x => x) fun _ _ _ x => x, HK2.out.trans (kal w2 _), by simp⟩
  have HR3 : Hid (BlkAt (w2.alloc (.cells #[.string B, .string (dgP l), .slice none 0 0, .slice none 0 0] 50)) w.heap.size 50 #[.string ⟨#[]⟩, .string ⟨#[]⟩, .slice none 0 0, .slice none 0 0]) := HR2.out.keeps (kal w2 _)
  have hoffl : (offsP l).length = l.length := by unfold offsP; simp
  rw [hoffl] at HS0
  rw [hoffl]
  clear HO2 hoffl
  generalize hD : dgP l = D at *
  have HD := Lib.hid hD
  clear hD
  go_wp2_with (refine wpList_store_row rfl 50 (.tmp 6) (.tmp 18) rfl w2.heap.size #[.string B, .string D, .slice none 0 0, .slice none 0 0] rfl rfl 50 _ (heap_alloc_last w2 _) (by kernel_rfl) rfl (packA_one B D none none 0 0 0 0) ?_; rw [World.setRow_alloc_new])
  go_loopw [21] (fun i wr => ∃ (k : Nat) (c p : Value), k ≤ l.length ∧ i = .int .i64 k ∧ Hid (OneS 50 w wr (w2.heap.size + 1) w2.heap.size B D l k k (.slice p1 l.length q1) c p) ∧ Hid (BlkAt wr w.heap.size 50 #[.string ⟨#[]⟩, .string ⟨#[]⟩, .slice none 0 0, .slice none 0 0])) (fun i _ => l.length - (intOf i).toNat)
  case atStart => exact ⟨0, _, _, by omega, rfl, HS0, HR3⟩
  case round =>
    clear HS0 HR3 HR2 HK2
    obtain ⟨k, c, p, hk, rfl, hS, hR⟩ := hrel
    by_cases hlt : k < l.length
    · have hlt64 : (k : Int) < (l.length : Int) := by omega
      have hk0 : (0 : Int) ≤ (k : Int) := by omega
      obtain ⟨b, off, cc, u, e5, d1, r1⟩ := seq_cell (SeqAt.keeps H.out hS.out.kp) hlt
      injection e5 with e6 e7 e8
      subst e6 e8
      unfold IsText at r1
      subst r1
      rw [← atP_get hlt] at d1
      have hsz := HS4.out k hlt
      generalize hs : atP l k = s at *
      have HS := Lib.hid hs
      clear e7 hs
      obtain ⟨us, hu1, hu2, hu3⟩ := hS.out.cs
      have hul : us.length = k := by rw [hu2]; simp; omega
      have HUO := Lib.hid hu1
      have HL2 := Lib.hid hu2
      have HL3 := Lib.hid hul
      have H3 := Lib.hid hu3
      have c2 : wr.cell? ⟨w2.heap.size, 2, none⟩ = some c := hS.out.blk.cell rfl
      have hszr := hS.out.sz
      clear hu1 hu2 hu3 hul
      go_upto_region 6 with (fail)
      go_cut [] (fun wx => ∃ c', Hid (OneS 50 w wx (w2.heap.size + 1) w2.heap.size B D l (k + 1) k (.slice p1 l.length q1) c' p) ∧ Hid (BlkAt wx w.heap.size 50 #[.string ⟨#[]⟩, .string ⟨#[]⟩, .slice none 0 0, .slice none 0 0]))
      case first =>
        go_region_law (first | (refine step_app1 elText rfl (.tmp 27) (.tmp 30) rfl (w2.heap.size + 1) c us (by simp [Act.eval]) (HU4.out.alloc _) _ (.string (dgT s)) (by simp [Act.eval]; try rfl) ?_ rfl (by have := HL3.out; omega) ?_ ?_; (first | exact World.cell?_alloc_new _ _ _ _ | simp [go_sem]); (simp; omega); intro v' w6 hown hchg; have HB6 := Lib.hid (BlkAt.past (HS4.out.keeps (kal w4 _)).blk (HU4.out.alloc _) ne_ps hchg); have HR6 := Lib.hid (BlkAt.past (HR4.out.keeps (kal w4 _)) (HU4.out.alloc _) ne_ps hchg); have c6 : w6.cell? ⟨w2.heap.size, 2, none⟩ = some c := HB6.out.cell rfl; have f6 := HB6.out.froz 2; obtain ⟨pv, qv, rfl⟩ := own_slice hown; have HO6 := Lib.hid hown; have HC6 := Lib.hid hchg; clear hown hchg) | (go_simp; go_at_call 34; refine Calls.mono (dsum_any s _ (by omega)) ?_; rintro e w4 ⟨rfl, hk4⟩; have HS4 := Lib.hid (hS.out.keeps hk4); have HR4 := Lib.hid (hR.out.keeps hk4); have HU4 := Lib.hid (owns_chgK (T := fun _ => False) HUO.out (Kept.any hk4) fun _ _ x => x); have c24 : w4.cell? ⟨w2.heap.size, 2, none⟩ = some c := HS4.out.blk.cell rfl; have cA : ∀ o : Obj, (w4.alloc o).cell? ⟨w2.heap.size, 2, none⟩ = some c := fun o => (HS4.out.keeps (kal w4 o)).blk.cell rfl; have hsz4 := HS4.out.sz; have HK4 := Lib.hid hk4; clear hk4))
        all_goals
          go_wp2_with fail
          go_meet
          exact ⟨_, OneS.pushC ⟨ne_ps, ne_pi⟩ (Nat.lt_succ_self _) (by omega) hS.out hlt HUO.out HL2.out H3.out (Keeps.trans HK4.out (kal w4 _)) (by rw [HS.out]; exact HO6.out) HC6.out, HR6.out.other (by omega) _⟩
      case rest =>
        obtain ⟨wx, rfl⟩ : ∃ wx : World, wx = wc := ⟨_, rfl⟩
        obtain ⟨c', HSX, HRX⟩ := hcut
        clear hS hR HUO HL2 HL3 H3 c2 hszr d1
        obtain ⟨us, hu1, hu2, hu3⟩ := HSX.out.ps
        have hul : us.length = k := by rw [hu2, List.length_take, places_length]; omega
        have HUO := Lib.hid hu1
        have HL2 := Lib.hid hu2
        have HL3 := Lib.hid hul
        have H3 := Lib.hid hu3
        have c3 : wx.cell? ⟨w2.heap.size, 3, none⟩ = some p := HSX.out.blk.cell rfl
        have c1 : wx.cell? ⟨w2.heap.size, 1, none⟩ = some (.string D) := HSX.out.blk.cell rfl
        have hszr := HSX.out.sz
        have cA : ∀ o : Obj, (wx.alloc o).cell? ⟨w2.heap.size, 3, none⟩ = some p := fun o => (HSX.out.keeps (kal wx o)).blk.cell rfl
        obtain ⟨b1, o1, cc1, u1, e5, d1, r1⟩ := seq_cell (SeqIn.at_ HSX.out.off) (i := k) (by unfold offsP; simp; omega)
        have hofl : (offsP l).length = l.length := by unfold offsP; simp
        rw [hofl] at e5
        injection e5 with e6 e7 e8
        subst e6 e8
        unfold IsInt at r1
        subst r1
        have hoe : (offsP l)[k]'(by rw [hofl]; exact hlt) = offP l k := by unfold offsP; simp
        rw [hoe] at d1
        clear e7 hofl hoe hu1 hu2 hu3 hul
        generalize ho : offP l k = ok at *
        have HOK := Lib.hid ho
        clear ho
        go_upto_region 7 with (fail)
        go_region_law (refine step_appr1 elPlace rfl (.tmp 34) (.tmp 44) rfl (w2.heap.size + 1) p us.length us.flatten (by simp [Act.eval]) (HUO.out.alloc _) _ [.string D, .int .i64 ok, .int .i64 (s.size : Int)] (by simp [Act.eval]; try rfl) rfl ?_ ?_ (by have := HL3.out; omega) ?_ ?_; exact fun j hj => (match j, hj with | 0, _ => World.cell?_alloc_new _ _ _ _ | 1, _ => World.cell?_alloc_new _ _ _ _ | 2, _ => World.cell?_alloc_new _ _ _ _); (intro y hy; simp at hy; rcases hy with rfl | rfl | rfl <;> rfl); (simp; omega); intro v' w6 hown hchg; have HB6 := Lib.hid (BlkAt.past (HSX.out.keeps (kal wx _)).blk (HUO.out.alloc _) ne_pp hchg); have HR6 := Lib.hid (BlkAt.past (HRX.out.keeps (kal wx _)) (HUO.out.alloc _) ne_pp hchg); have c6 : w6.cell? ⟨w2.heap.size, 3, none⟩ = some p := HB6.out.cell rfl; have f6 := HB6.out.froz 3; obtain ⟨pv, qv, rfl⟩ := own_sliceK hown; have HO6 := Lib.hid hown; have HC6 := Lib.hid hchg; clear hown hchg)
        all_goals
          have HF : Hid (OneS 50 w (w6.setCell ⟨w2.heap.size, 3, none⟩ (.slice pv (us.length + 1) qv)) (w2.heap.size + 1) w2.heap.size B D l (k + 1) (k + 1) (.slice (some ⟨b1, o1, none⟩) l.length q1) c' (.slice pv (us.length + 1) qv)) := OneS.pushP HD.out ⟨ne_pp, ne_pi⟩ (Nat.lt_succ_self _) (by omega) HSX.out hlt HUO.out HL2.out H3.out (kal wx _) (by rw [HS.out, HOK.out]; exact HO6.out) HC6.out
          have HRF : Hid (BlkAt (w6.setCell ⟨w2.heap.size, 3, none⟩ (.slice pv (us.length + 1) qv)) w.heap.size 50 #[.string ⟨#[]⟩, .string ⟨#[]⟩, .slice none 0 0, .slice none 0 0]) := HR6.out.other (by omega) _
          clear HC6 HO6 HB6 HR6 HUO HL2 H3
          go_wp2
          exact ⟨⟨k + 1, _, _, by omega, by go_num, HF, HRF⟩, by simp [intOf]; omega⟩
    · obtain rfl : k = l.length := by omega
      obtain ⟨us, hu1, hu2, hu3⟩ := hS.out.cs
      obtain ⟨vs, hv1, hv2, hv3⟩ := hS.out.ps
      obtain ⟨pc, qc, rfl⟩ := own_slice hu1
      obtain ⟨pp, qp, rfl⟩ := own_sliceK hv1
      have HBK := Lib.hid hS.out.blk
      have HCS := Lib.hid (hS.out.cs.seq (by simp; omega))
      have HPS := Lib.hid (hS.out.ps.seq (by rw [List.length_take, places_length]; omega))
      have hs1 := hS.out.kp.size
      clear hu1 hu2 hu3 hv1 hv2 hv3
      go_wp2_with (first | (refine wpList_load_row rfl 50 (.tmp 6) rfl w2.heap.size rfl 50 _ (0, 0) _ HBK.out Try.underlying50 rfl (by kernel_rfl) ?_) | (refine wpList_store_row rfl 50 (.tmp 2) (.tmp 48) rfl w.heap.size _ rfl rfl 50 _ hR.out (by kernel_rfl) rfl (packA_one B D pc pp us.length vs.length qc qp) ?_))
      have hT := chg_row wr w.heap.size #[.string B, .string D, .slice pc us.length qc, .slice pp vs.length qp]
      refine bodyPost_ret (v := .agg #[.string B, .string D, .slice pc us.length qc, .slice pp vs.length qp]) (results_cell_row rfl _ _ w.heap.size 50 (#[.string B, .string D, .slice pc us.length qc, .slice pp vs.length qp] : Array Value) (0, 0) _ rfl (setRow_heap wr _ _ _ _ _ hR.out) Try.underlying50 rfl (by kernel_rfl)) rfl ?_
      rw [HU.out w, ← HDG.out]
      rw [List.take_length] at HCS
      have hpl : (placesP l).take l.length = placesP l := List.take_of_length_le (by rw [places_length]; omega)
      rw [hpl] at HPS
      refine ⟨_, _, rfl, ⟨_, _, by rw [HB.out, HD.out], ?_, ?_⟩, ?_⟩
      · exact (SeqIn.mono HCS.out (fun b hb => (by omega : w.heap.size ≤ b)) fun _ _ x => x).chg hT (fun b _ _ ht e => by subst e; rw [hR.out.typ] at ht; exact absurd (Option.some.inj ht) ne_ps) fun _ _ _ x => x
      · exact (RecIn.mono HPS.out (fun b hb => (by omega : w.heap.size ≤ b)) fun _ _ x => x).chg hT (fun b _ _ ht e => by subst e; rw [hR.out.typ] at ht; exact absurd (Option.some.inj ht) ne_pp) fun _ _ _ x => x
      · exact hS.out.kp.then (chg_kept (B := w.heap.size) hT (fun q _ e => by omega) hs1) (Nat.le_refl _)
end Go.Proofs.Yteandjophamipaa
