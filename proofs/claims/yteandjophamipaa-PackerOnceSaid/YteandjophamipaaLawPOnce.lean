/- The walk of the law PackerOnce. -/
import Derived.Test.YteandjophamipaaLawPFirst
import Derived.Test.YteandjophamipaaPackRead
namespace Go.Proofs.Yteandjophamipaa
open Go.RowKit
attribute [local go_sem ↓] Go.wp_at_zero Go.wp_at_succ
def ponce10 (b o q ln k m bc oc qc bp op qp : Nat) (B D : ByteArray) : Nat → Value → Prop
  | i, v => v = ([.slice (some ⟨b, o, none⟩) ln q, .int .i64 (k : Int), .pointer (some ⟨b, o + k * 4, none⟩), .pointer (some ⟨b, o + k * 4 + 1, none⟩), .string D, .slice (some ⟨b, o, none⟩) ln q, .int .i64 (k : Int), .pointer (some ⟨b, o + k * 4, none⟩), .pointer (some ⟨b, o + k * 4, none⟩), .string B, .string D, .bool false, .bool false, .slice (some ⟨b, o, none⟩) ln q, .int .i64 (k : Int), .pointer (some ⟨b, o + k * 4, none⟩), .pointer (some ⟨b, o + k * 4 + 2, none⟩), .slice (some ⟨bc, oc, none⟩) m qc, .int .i64 (m : Int), .slice (some ⟨b, o, none⟩) ln q, .int .i64 (k : Int), .pointer (some ⟨b, o + k * 4, none⟩), .pointer (some ⟨b, o + k * 4 + 3, none⟩), .slice (some ⟨bp, op, none⟩) m qp, .int .i64 (m : Int), .bool false, .bool false, .bool false, .slice (some ⟨b, o, none⟩) ln q, .int .i64 (k : Int), .pointer (some ⟨b, o + k * 4, none⟩), .pointer (some ⟨b, o + k * 4 + 2, none⟩), .slice (some ⟨bc, oc, none⟩) m qc, .int .i64 (m : Int), .bool false, .bool false] : List Value).getD i undef
def ponce18 (b o q ln k bx f : Nat) (B D s : ByteArray) : Nat → Value → Prop
  | i, v => v = ([.pointer (some ⟨bx, 0, none⟩), .string D, .slice (some ⟨b, o, none⟩) ln q, .int .i64 (k : Int), .pointer (some ⟨b, o + k * 4, none⟩), .pointer (some ⟨b, o + k * 4 + 1, none⟩), .string D, .bool false, .bool false, .pointer (some ⟨bx, 1, none⟩), .int .i64 (f : Int), .bool false, .bool false, .bool false, .pointer (some ⟨bx, 2, none⟩), .int .i64 (s.size : Int), .bool false, .bool false, .bool false, .pointer (some ⟨bx, 1, none⟩), .int .i64 (f : Int), .pointer (some ⟨bx, 2, none⟩), .int .i64 (s.size : Int), .int .i64 ((f : Int) + (s.size : Int)), .slice (some ⟨b, o, none⟩) ln q, .int .i64 (k : Int), .pointer (some ⟨b, o + k * 4, none⟩), .pointer (some ⟨b, o + k * 4, none⟩), .string B, .int .i64 (B.size : Int), .bool false, .bool false] : List Value).getD i undef
def ponce20 (b o q ln k bx f : Nat) (B s : ByteArray) : Nat → Value → Prop
  | i, v => v = ([.slice (some ⟨b, o, none⟩) ln q, .int .i64 (k : Int), .pointer (some ⟨b, o + k * 4, none⟩), .pointer (some ⟨b, o + k * 4, none⟩), .string B, .pointer (some ⟨bx, 1, none⟩), .int .i64 (f : Int), .pointer (some ⟨bx, 1, none⟩), .int .i64 (f : Int), .pointer (some ⟨bx, 2, none⟩), .int .i64 (s.size : Int), .int .i64 ((f : Int) + (s.size : Int)), .string s, .string s] : List Value).getD i undef
def ponce21 (b o q ln k j m bc oc qc : Nat) (s ds : ByteArray) : Nat → Value → Prop
  | i, v => v = ([.string s, .string ds, .slice (some ⟨b, o, none⟩) ln q, .int .i64 (k : Int), .pointer (some ⟨b, o + k * 4, none⟩), .pointer (some ⟨b, o + k * 4 + 2, none⟩), .slice (some ⟨bc, oc, none⟩) m qc, .int .i64 (j : Int), .pointer (some ⟨bc, oc + j, none⟩), .string ds, .bool false] : List Value).getD i undef
def ponce30 (b o q ln k m ba oa qa qt b3 o3 q3 : Nat) (pt : Option Addr) (B : ByteArray) : Nat → Value → Prop
  | i, v => v = ([.int .i64 0, .bool false, .bool false, .slice (some ⟨ba, oa, none⟩) 1 qa, .int .i64 1, .bool false, .bool false, .bool false, .slice (some ⟨ba, oa, none⟩) 1 qa, .pointer (some ⟨ba, oa, none⟩), .pointer (some ⟨ba, oa, none⟩), .string B, .slice (some ⟨b, o, none⟩) ln q, .int .i64 (k : Int), .pointer (some ⟨b, o + k * 4, none⟩), .pointer (some ⟨b, o + k * 4, none⟩), .string B, .bool false, .bool false, .bool false, .int .i64 0, .bool false, .bool false, .bool false, .slice pt m qt, .int .i64 (m : Int), .slice (some ⟨b3, o3, none⟩) m q3, .int .i64 (m : Int), .bool false, .bool false] : List Value).getD i undef
def ponce42 (b o n q b2 o2 n2 q2 k t : Nat) (s : ByteArray) : Nat → Value → Prop
  | i, v => v = ([.int .i64 (t : Int), .slice (some ⟨b, o, none⟩) n q, .int .i64 (n : Int), .bool false, .bool false, .slice (some ⟨b, o, none⟩) n q, .int .i64 (t : Int), .pointer (some ⟨b, o + t, none⟩), .string s, .slice (some ⟨b2, o2, none⟩) n2 q2, .int .i64 (k : Int), .pointer (some ⟨b2, o2 + k, none⟩), .string s, .bool false, .bool false] : List Value).getD i undef
theorem chunkIn {l : List ByteArray} {i : Nat} (h : i < l.length) : (strB (blobP l)).extract ((headP l).length + total (l.take i)) ((headP l).length + total (l.take i) + (atP l i).size) = atP l i := by
  have e : blobP l = (headP l ++ joinP (l.take i)) ++ ((atP l i).data.toList ++ joinP (l.drop (i + 1))) := by
    unfold blobP; rw [List.append_assoc]; congr 1; exact joinP_split h
  have hl2 : (headP l ++ joinP (l.take i)).length = (headP l).length + total (l.take i) := by rw [List.length_append, joinP_length]
  have e2 : (strB (blobP l)).data.toList = blobP l := rfl
  rw [ext_both, e2, e, List.drop_left' hl2, show ∀ a b : Nat, a + b - a = b from fun a b => by omega, List.take_left' (data_size _), strB_data]
theorem readP_to {f : FuncId} {xs : Array Value} {w : World} {r : List ByteArray × List Int × Int} {B : List ByteArray} {o : List Int} {x : Int} (h : Calls Try.prog f xs w (GiveR w r)) (e : r = (B, o, x)) : Calls Try.prog f xs w (GiveR w (B, o, x)) := e ▸ h
set_option maxRecDepth 100000 in
theorem sliceAt (B x : ByteArray) (f : Nat) (h : f + x.size ≤ B.size) (e : B.extract f (f + x.size) = x) : ∀ wx : World, (Instr.slice 9 (.string B) (some (.int .i64 (f : Int))) (some (.int .i64 ((f : Int) + (x.size : Int)))) none).run Try.prog wx = .ok (.string x) wx := fun wx => by
  have h1 : ((f : Int) + (x.size : Int)).toNat = f + x.size := by omega
  have h2 : (f : Int).toNat = f := by omega
  rw [run_slice_string _ _ _ _ _ _ _ rfl (by omega) (by omega) (by omega), h1, h2, e]
theorem placeA_one (D : ByteArray) (a b : Int) : (#[.string D, .int .i64 a, .int .i64 b] : Array Value).all (·.oneCell') = true := by
  apply Array.all_eq_true_iff_forall_mem.2
  intro v hv
  simp at hv
  rcases hv with rfl | rfl | rfl <;> rfl
theorem BlkAt.past_cell {wx w6 : World} {b i base k n : Nat} {F E : TypeId} {c u : Value} {us : List Value} (h : wx.cell? ⟨b, i, none⟩ = some c) (ht : typH wx.heap b = some F ∧ F ≠ E) (h0 : wx.ownsRow base E k u n us) (hc : Chg (fun b => u.ownBlock = some b) wx w6) : w6.cell? ⟨b, i, none⟩ = some c := by
  rw [cell_of] at h ⊢
  exact cellH_chg hc h (own_type h0 ht.1 ht.2)
theorem typ_keeps {w w' : World} {b : Nat} {F E : TypeId} (k : Keeps w w') (h : typH w.heap b = some F ∧ F ≠ E) : typH w'.heap b = some F ∧ F ≠ E := ⟨typH_chg (T := fun _ => False) (Kept.any k) h.1 (fun x => x), h.2⟩
theorem typ_blk {w : World} {b : Nat} {F E : TypeId} {cs : Array Value} (h : BlkAt w b F cs) (n : F ≠ E) : typH w.heap b = some F ∧ F ≠ E := by unfold BlkAt at h; exact ⟨typH_of h, n⟩
theorem offP_nat (l : List ByteArray) (k : Nat) : offP l k = (((headP l).length + total (l.take k) : Nat) : Int) := rfl
theorem chunk_fits {g : List ByteArray} {j : Nat} (h : j < g.length) : (headP g).length + total (g.take j) + (atP g j).size ≤ (strB (blobP g)).size := by
  have h1 := total_take h
  have h2 := total_le g (j + 1)
  rw [strB_size]
  unfold blobP
  rw [List.length_append, joinP_length]; omega
theorem flatS {gs : List (List ByteArray)} {k : Nat} (h : k < gs.length) : (gs.take (k + 1)).flatten = (gs.take k).flatten ++ grp gs k := by
  rw [grp_get h, ← List.take_append_getElem h, List.flatten_append]; simp
set_option maxRecDepth 100000 in
set_option maxHeartbeats 8000000 in
theorem pkonce_any (v : Value) (l : List ByteArray) (w : World) (h : TextsAt w.heap v l) : Calls Try.prog 13 #[v] w fun e w' => e = .returned (.bool true) ∧ Keeps w w' := by
  obtain ⟨p, q, rfl⟩ := seq_shape h
  have H := Lib.hid h
  clear h
  cases hlb : longB l with
  | true =>
    have HL := Lib.hid hlb
    clear hlb
    go_enter Try.func13, Try.ntmps13
    go_wp2_with fail
    refine Calls.mono (plong16_any _ l _ H.out) ?_
    rintro e w' ⟨rfl, rfl⟩
    rw [HL.out]
    go_wp2_with fail
    refine Calls.mono (pawake_any _) ?_
    rintro e w1 ⟨rfl, hk⟩
    go_wp2_with fail
    go_ret
    exact ⟨rfl, hk⟩
  | false =>
  have HL := Lib.hid hlb
  obtain ⟨hs, htl⟩ := longB_no hlb
  have hlen : l.length ≤ 4000 := by omega
  have htot : total l ≤ 80000 := by omega
  clear hlb hs htl
  go_enter Try.func13, Try.ntmps13
  go_wp2_with fail
  refine Calls.mono (plong16_any _ l _ H.out) ?_
  rintro e w' ⟨rfl, rfl⟩
  rw [HL.out]
  go_wp2_with fail
  refine Calls.mono (pawake_any _) ?_
  rintro e w1 ⟨rfl, hk⟩
  have HK1 := Lib.hid hk
  have H1 := Lib.hid (SeqAt.keeps H.out hk)
  clear hk
  cases hb : badG l with
  | true =>
    have HBD := Lib.hid hb
    clear hb
    go_wp2_with fail
    refine Calls.mono (give_no (gather_any _ l _ H1.out (by omega) (by omega)) HBD.out) ?_
    rintro e w2 ⟨rfl, hk⟩
    have HK2 := Lib.hid (HK1.out.trans hk)
    clear hk
    go_wp2_with fail
    go_ret
    exact ⟨rfl, HK2.out⟩
  | false =>
  have HBD := Lib.hid hb
  clear hb
  go_wp2_with fail
  refine Calls.mono (give_yes (gather_any _ l _ H1.out (by omega) (by omega)) HBD.out rfl) ?_
  rintro e w2 ⟨v2, rfl, hr, hk⟩
  have HK2 := Lib.hid (HK1.out.trans hk)
  have H2 := Lib.hid (SeqAt.keeps H1.out hk)
  have HR := Lib.hid hr.at_
  obtain ⟨p2, q2, rfl⟩ := rec_shape hr.at_
  have HGD := Lib.hid (gath_good HBD.out)
  have HGA := Lib.hid (gath_apart l)
  have HGF := Lib.hid (gath_flat l)
  have HGL : Hid ((gath l).length ≤ cntG (gath l) ∧ cntG (gath l) ≤ l.length) := gath_len l HBD.out
  have hgsl : (gath l).length ≤ 4000 := by have := HGL.out; omega
  clear hr hk HL HK1 H1 H
  generalize gath l = gs at *
  go_wp2_with fail
  go_loopw [5, 6] (fun a i wr => ∃ k : Nat, k ≤ gs.length ∧ i = .int .i64 k ∧ Hid (OwnSeq w2.heap.size 9 IsText wr a (gs.take k).flatten) ∧ Hid (Keeps w2 wr)) (fun _ i _ => gs.length - (intOf i).toNat)
  case atStart => exact ⟨0, by omega, rfl, by exact OwnSeq.nil _ _ _ _, keeps_refl w2⟩
  case round =>
    obtain ⟨k, hk, rfl, hA, hK⟩ := hrel
    by_cases hlt : k < gs.length
    · have hlt64 : (k : Int) < (gs.length : Int) := by omega
      have hk0 : (0 : Int) ≤ (k : Int) := by omega
      obtain ⟨b, o, _, us, e5, hus, hc, c, pp, rfl, ht, hp⟩ := rec_cell HR.out hlt
      injection e5 with e6 e7 e8
      subst e6 e8
      rw [← grp_get hlt] at hc ht hp
      have hgm := HGD.out _ (grp_mem hlt)
      have hgn := mayP_ne hgm
      have hpos : 0 < (grp gs k).length := List.length_pos_iff.2 hgn
      obtain ⟨bc, oc, qc, _, rfl, _, _⟩ := seq_cell (SeqIn.at_ ht) (i := 0) (by rw [List.length_map]; exact hpos)
      obtain ⟨bp, op, qp, _, rfl, _, _, _⟩ := rec_cell hp.at_ (i := 0) (by rw [places_length]; exact hpos)
      have W0 := hc 0 (by simp)
      have K1 := hc 1 (by simp)
      have K2 := hc 2 (by simp)
      have K3 := hc 3 (by simp)
      simp only [List.getElem_cons_zero, List.getElem_cons_succ, Nat.add_zero, List.length_map, places_length] at W0 K1 K2 K3
      have K0 := Lib.hid (keeps_cell hK.out W0)
      have K1 := Lib.hid (keeps_cell hK.out K1)
      have K2 := Lib.hid (keeps_cell hK.out K2)
      have K3 := Lib.hid (keeps_cell hK.out K3)
      have W0 := Lib.hid W0
      have HTC := Lib.hid (SeqAt.keeps (SeqIn.at_ ht) hK.out)
      have HPC := Lib.hid (RecAt.keeps hp.at_ hK.out)
      rw [List.length_map] at HTC
      rw [places_length] at HPC
      obtain ⟨m1, m2, m3, m4⟩ := mayP_small hgm
      have hsm := size_blob' hgm
      have HAP := Lib.hid (HGA.out k)
      have HFS := Lib.hid (flatS hlt)
      have HMP := Lib.hid hgm
      have hft := flat_take hlt
      have hfm := flat_mono (gs := gs) (k + 1)
      have hgl := HGL.out.2
      have hcn : cntG (gs.take k) + (grp gs k).length ≤ 4000 := by omega
      have HSU : Hid (∀ wx, Calls Try.prog 34 #[.string (strB (blobP (grp gs k)))] wx fun e w' => e = .returned (.string (dgP (grp gs k))) ∧ Keeps wx w') := fun wx => dsum_any _ wx (by omega)
      clear hc hus ht hp hgn e7 hft hfm hgl
      generalize hgg : grp gs k = g at *
      have HGG := Lib.hid hgg
      clear hgg
      generalize hB : strB (blobP g) = B at *
      have HBE := Lib.hid hB
      clear hB
      generalize hD : dgP g = D at *
      have HDE := Lib.hid hD
      clear hD
      have HM0 : Hid (((g.length : Int) == 0) = false) := by show _ = _; rw [beq_eq_false_iff_ne]; omega
      have HM1 : Hid ((g.length == 0) = false) := by show _ = _; rw [beq_eq_false_iff_ne]; omega
      clear hgm
      go_wp2_with fail
      refine wp_region_stage [44, 45, 46, 47, 48, 49, 50, 51, 52, 53, 54, 55, 56, 57, 58, 59, 60, 61, 62, 63, 64, 65, 66, 67, 68, 69, 70, 71, 72, 73, 74, 75, 76, 77, 78, 79] [[], [], [0, 1], [2], [3], [], [], [5, 6], [7], [8], [9], [4, 10], [11], [12], [12], [12, 13, 14], [12, 15], [12, 16], [12, 17], [12], [12], [12, 19, 20], [12, 21], [12, 22], [12, 23], [12, 18, 24], [12, 25], [26], [27], [27], [27, 28, 29], [27, 30], [27, 31], [27, 32], [27, 33], [27, 34]] [] [0, 0, 0, 0, 0, 0, 0, 0, 0, 0, 0, 0, 0, 0, 0, 0, 0, 0, 0, 0, 0, 0, 0, 0, 0, 0, 0, 0, 0, 0, 0, 0, 0, 0, 0, 0] [] (fun i v _ => ponce10 b o q2 gs.length k g.length bc oc qc bp op qp B D i v) (fun w w' => Keeps w w') (fun _ _ w' => Keeps wr w') (by kernel_rfl) (by kernel_rfl) (by kernel_rfl) (by kernel_rfl) (by kernel_rfl) (by kernel_rfl) (by kernel_rfl) ?_ ?_ ?_ ?_ ?_ ?_ ?_
      · exact fun i v w w' c h => h
      · exact fun w => keeps_refl w
      · exact fun i s vs w _ h => h
      · refine ⟨?_, ?_, ?_, ?_, ?_, ?_, ?_, ?_, ?_, ?_, ?_, ?_, ?_, ?_, ?_, ?_, ?_, ?_, ?_, ?_, ?_, ?_, ?_, ?_, ?_, ?_, ?_, ?_, ?_, ?_, ?_, ?_, ?_, ?_, ?_, ?_, trivial⟩
        · exact fun g b h => by (cases h)
        · exact fun g b h => by (cases h)
        · exact fun g b h => by (cases h)
        · exact fun g b h => by (cases h)
        · exact fun g b h => by (cases h)
        · exact fun g b h => by (cases h)
        · exact fun g b h => by (cases h)
        · exact fun g b h => by (cases h)
        · exact fun g b h => by (cases h)
        · exact fun g b h => by (cases h)
        · exact fun g b h => by (cases h)
        · exact fun g b h => by (cases h)
        · exact fun g b h => by (cases h)
        · exact fun g b h => by (cases h; exact ⟨by decide, fun v w h => h⟩)
        · exact fun g b h => by (cases h; exact ⟨by decide, fun v w h => h⟩)
        · exact fun g b h => by (cases h; exact ⟨by decide, fun v w h => h⟩)
        · exact fun g b h => by (cases h; exact ⟨by decide, fun v w h => h⟩)
        · exact fun g b h => by (cases h; exact ⟨by decide, fun v w h => h⟩)
        · exact fun g b h => by (cases h; exact ⟨by decide, fun v w h => h⟩)
        · exact fun g b h => by (cases h; exact ⟨by decide, fun v w h => h⟩)
        · exact fun g b h => by (cases h; exact ⟨by decide, fun v w h => h⟩)
        · exact fun g b h => by (cases h; exact ⟨by decide, fun v w h => h⟩)
        · exact fun g b h => by (cases h; exact ⟨by decide, fun v w h => h⟩)
        · exact fun g b h => by (cases h; exact ⟨by decide, fun v w h => h⟩)
        · exact fun g b h => by (cases h; exact ⟨by decide, fun v w h => h⟩)
        · exact fun g b h => by (cases h; exact ⟨by decide, fun v w h => h⟩)
        · exact fun g b h => by (cases h)
        · exact fun g b h => by (cases h)
        · exact fun g b h => by (cases h; exact ⟨by decide, fun v w h => h⟩)
        · exact fun g b h => by (cases h; exact ⟨by decide, fun v w h => h⟩)
        · exact fun g b h => by (cases h; exact ⟨by decide, fun v w h => h⟩)
        · exact fun g b h => by (cases h; exact ⟨by decide, fun v w h => h⟩)
        · exact fun g b h => by (cases h; exact ⟨by decide, fun v w h => h⟩)
        · exact fun g b h => by (cases h; exact ⟨by decide, fun v w h => h⟩)
        · exact fun g b h => by (cases h; exact ⟨by decide, fun v w h => h⟩)
        · exact fun g b h => by (cases h)
      · exact fun _ _ => keeps_refl wr
      · refine ⟨?_, ?_, ?_, ?_, ?_, ?_, ?_, ?_, ?_, ?_, ?_, ?_, ?_, ?_, ?_, ?_, ?_, ?_, ?_, ?_, ?_, ?_, ?_, ?_, ?_, ?_, ?_, ?_, ?_, ?_, ?_, ?_, ?_, ?_, ?_, ?_, trivial⟩
        · intro _ a w1 vs hI ho hn hu K hK
          have e3 : a.tmps[3]? = some (.slice (some ⟨b, o, none⟩) gs.length q2) := ho 3 rfl
          clear hn ho hu
          go_simp
          exact hK _ _ (keeps_refl _) hI rfl
        · intro _ a w1 vs hI ho hn hu K hK
          have e6 : a.tmps[6]? = some (.int .i64 (k : Int)) := ho 6 rfl
          clear hn ho hu
          go_simp
          exact hK _ _ (keeps_refl _) hI rfl
        · intro _ a w1 vs hI ho hn hu K hK
          obtain ⟨e44, g44⟩ : a.tmps[44]? = some (vs 0) ∧ vs 0 = .slice (some ⟨b, o, none⟩) gs.length q2 := hn 0 (by decide)
          rw [g44] at e44
          clear g44
          obtain ⟨e45, g45⟩ : a.tmps[45]? = some (vs 1) ∧ vs 1 = .int .i64 (k : Int) := hn 1 (by decide)
          rw [g45] at e45
          clear g45
          clear hn ho hu
          go_simp
          exact hK _ _ (keeps_refl _) hI rfl
        · intro _ a w1 vs hI ho hn hu K hK
          obtain ⟨e46, g46⟩ : a.tmps[46]? = some (vs 2) ∧ vs 2 = .pointer (some ⟨b, o + k * 4, none⟩) := hn 2 (by decide)
          rw [g46] at e46
          clear g46
          clear hn ho hu
          go_simp
          exact hK _ _ (keeps_refl _) hI rfl
        · intro _ a w1 vs hI ho hn hu K hK
          obtain ⟨e47, g47⟩ : a.tmps[47]? = some (vs 3) ∧ vs 3 = .pointer (some ⟨b, o + k * 4 + 1, none⟩) := hn 3 (by decide)
          rw [g47] at e47
          clear g47
          clear hn ho hu
          have c0 := keeps_cell hI K1.out
          go_simp
          exact hK _ _ (keeps_refl _) hI rfl
        · intro _ a w1 vs hI ho hn hu K hK
          have e3 : a.tmps[3]? = some (.slice (some ⟨b, o, none⟩) gs.length q2) := ho 3 rfl
          clear hn ho hu
          go_simp
          exact hK _ _ (keeps_refl _) hI rfl
        · intro _ a w1 vs hI ho hn hu K hK
          have e6 : a.tmps[6]? = some (.int .i64 (k : Int)) := ho 6 rfl
          clear hn ho hu
          go_simp
          exact hK _ _ (keeps_refl _) hI rfl
        · intro _ a w1 vs hI ho hn hu K hK
          obtain ⟨e49, g49⟩ : a.tmps[49]? = some (vs 5) ∧ vs 5 = .slice (some ⟨b, o, none⟩) gs.length q2 := hn 5 (by decide)
          rw [g49] at e49
          clear g49
          obtain ⟨e50, g50⟩ : a.tmps[50]? = some (vs 6) ∧ vs 6 = .int .i64 (k : Int) := hn 6 (by decide)
          rw [g50] at e50
          clear g50
          clear hn ho hu
          go_simp
          exact hK _ _ (keeps_refl _) hI rfl
        · intro _ a w1 vs hI ho hn hu K hK
          obtain ⟨e51, g51⟩ : a.tmps[51]? = some (vs 7) ∧ vs 7 = .pointer (some ⟨b, o + k * 4, none⟩) := hn 7 (by decide)
          rw [g51] at e51
          clear g51
          clear hn ho hu
          go_simp
          exact hK _ _ (keeps_refl _) hI rfl
        · intro _ a w1 vs hI ho hn hu K hK
          obtain ⟨e52, g52⟩ : a.tmps[52]? = some (vs 8) ∧ vs 8 = .pointer (some ⟨b, o + k * 4, none⟩) := hn 8 (by decide)
          rw [g52] at e52
          clear g52
          clear hn ho hu
          have c0 := keeps_cell hI K0.out
          go_simp
          exact hK _ _ (keeps_refl _) hI rfl
        · intro _ a w1 vs hI ho hn hu K hK
          obtain ⟨e53, g53⟩ : a.tmps[53]? = some (vs 9) ∧ vs 9 = .string B := hn 9 (by decide)
          rw [g53] at e53
          clear g53
          clear hn ho hu
          go_simp
          refine Calls.mono (HSU.out _) ?_
          rintro e w' ⟨rfl, hk2⟩
          go_simp
          exact hK _ _ hk2 (Keeps.trans hI hk2) rfl
        · intro _ a w1 vs hI ho hn hu K hK
          obtain ⟨e48, g48⟩ : a.tmps[48]? = some (vs 4) ∧ vs 4 = .string D := hn 4 (by decide)
          rw [g48] at e48
          clear g48
          obtain ⟨e54, g54⟩ : a.tmps[54]? = some (vs 10) ∧ vs 10 = .string D := hn 10 (by decide)
          rw [g54] at e54
          clear g54
          clear hn ho hu
          go_simp
          exact hK _ _ (keeps_refl _) hI rfl
        · intro _ a w1 vs hI ho hn hu K hK
          obtain ⟨e55, g55⟩ : a.tmps[55]? = some (vs 11) ∧ vs 11 = .bool false := hn 11 (by decide)
          rw [g55] at e55
          clear g55
          clear hn ho hu
          go_simp
          exact hK _ _ (keeps_refl _) hI rfl
        · intro _ a w1 vs hI ho hn hu K hK
          have e3 : a.tmps[3]? = some (.slice (some ⟨b, o, none⟩) gs.length q2) := ho 3 rfl
          clear hn ho hu
          go_simp
          exact hK _ _ (keeps_refl _) hI rfl
        · intro _ a w1 vs hI ho hn hu K hK
          have e6 : a.tmps[6]? = some (.int .i64 (k : Int)) := ho 6 rfl
          clear hn ho hu
          go_simp
          exact hK _ _ (keeps_refl _) hI rfl
        · intro _ a w1 vs hI ho hn hu K hK
          obtain ⟨e57, g57⟩ : a.tmps[57]? = some (vs 13) ∧ vs 13 = .slice (some ⟨b, o, none⟩) gs.length q2 := hn 13 (by decide)
          rw [g57] at e57
          clear g57
          obtain ⟨e58, g58⟩ : a.tmps[58]? = some (vs 14) ∧ vs 14 = .int .i64 (k : Int) := hn 14 (by decide)
          rw [g58] at e58
          clear g58
          clear hn ho hu
          go_simp
          exact hK _ _ (keeps_refl _) hI rfl
        · intro _ a w1 vs hI ho hn hu K hK
          obtain ⟨e59, g59⟩ : a.tmps[59]? = some (vs 15) ∧ vs 15 = .pointer (some ⟨b, o + k * 4, none⟩) := hn 15 (by decide)
          rw [g59] at e59
          clear g59
          clear hn ho hu
          go_simp
          exact hK _ _ (keeps_refl _) hI rfl
        · intro _ a w1 vs hI ho hn hu K hK
          obtain ⟨e60, g60⟩ : a.tmps[60]? = some (vs 16) ∧ vs 16 = .pointer (some ⟨b, o + k * 4 + 2, none⟩) := hn 16 (by decide)
          rw [g60] at e60
          clear g60
          clear hn ho hu
          have c0 := keeps_cell hI K2.out
          go_simp
          exact hK _ _ (keeps_refl _) hI rfl
        · intro _ a w1 vs hI ho hn hu K hK
          obtain ⟨e61, g61⟩ : a.tmps[61]? = some (vs 17) ∧ vs 17 = .slice (some ⟨bc, oc, none⟩) g.length qc := hn 17 (by decide)
          rw [g61] at e61
          clear g61
          clear hn ho hu
          go_simp
          exact hK _ _ (keeps_refl _) hI rfl
        · intro _ a w1 vs hI ho hn hu K hK
          have e3 : a.tmps[3]? = some (.slice (some ⟨b, o, none⟩) gs.length q2) := ho 3 rfl
          clear hn ho hu
          go_simp
          exact hK _ _ (keeps_refl _) hI rfl
        · intro _ a w1 vs hI ho hn hu K hK
          have e6 : a.tmps[6]? = some (.int .i64 (k : Int)) := ho 6 rfl
          clear hn ho hu
          go_simp
          exact hK _ _ (keeps_refl _) hI rfl
        · intro _ a w1 vs hI ho hn hu K hK
          obtain ⟨e63, g63⟩ : a.tmps[63]? = some (vs 19) ∧ vs 19 = .slice (some ⟨b, o, none⟩) gs.length q2 := hn 19 (by decide)
          rw [g63] at e63
          clear g63
          obtain ⟨e64, g64⟩ : a.tmps[64]? = some (vs 20) ∧ vs 20 = .int .i64 (k : Int) := hn 20 (by decide)
          rw [g64] at e64
          clear g64
          clear hn ho hu
          go_simp
          exact hK _ _ (keeps_refl _) hI rfl
        · intro _ a w1 vs hI ho hn hu K hK
          obtain ⟨e65, g65⟩ : a.tmps[65]? = some (vs 21) ∧ vs 21 = .pointer (some ⟨b, o + k * 4, none⟩) := hn 21 (by decide)
          rw [g65] at e65
          clear g65
          clear hn ho hu
          go_simp
          exact hK _ _ (keeps_refl _) hI rfl
        · intro _ a w1 vs hI ho hn hu K hK
          obtain ⟨e66, g66⟩ : a.tmps[66]? = some (vs 22) ∧ vs 22 = .pointer (some ⟨b, o + k * 4 + 3, none⟩) := hn 22 (by decide)
          rw [g66] at e66
          clear g66
          clear hn ho hu
          have c0 := keeps_cell hI K3.out
          go_simp
          exact hK _ _ (keeps_refl _) hI rfl
        · intro _ a w1 vs hI ho hn hu K hK
          obtain ⟨e67, g67⟩ : a.tmps[67]? = some (vs 23) ∧ vs 23 = .slice (some ⟨bp, op, none⟩) g.length qp := hn 23 (by decide)
          rw [g67] at e67
          clear g67
          clear hn ho hu
          go_simp
          exact hK _ _ (keeps_refl _) hI rfl
        · intro _ a w1 vs hI ho hn hu K hK
          obtain ⟨e62, g62⟩ : a.tmps[62]? = some (vs 18) ∧ vs 18 = .int .i64 (g.length : Int) := hn 18 (by decide)
          rw [g62] at e62
          clear g62
          obtain ⟨e68, g68⟩ : a.tmps[68]? = some (vs 24) ∧ vs 24 = .int .i64 (g.length : Int) := hn 24 (by decide)
          rw [g68] at e68
          clear g68
          clear hn ho hu
          go_simp
          exact hK _ _ (keeps_refl _) hI rfl
        · intro _ a w1 vs hI ho hn hu K hK
          obtain ⟨e56, g56⟩ : a.tmps[56]? = some (vs 12) ∧ vs 12 = .bool false := hn 12 (by decide)
          rw [g56] at e56
          clear g56
          obtain ⟨e69, g69⟩ : a.tmps[69]? = some (vs 25) ∧ vs 25 = .bool false := hn 25 (by decide)
          rw [g69] at e69
          clear g69
          clear hn ho hu
          go_simp
          exact hK _ _ (keeps_refl _) hI rfl
        · intro _ a w1 vs hI ho hn hu K hK
          obtain ⟨e70, g70⟩ : a.tmps[70]? = some (vs 26) ∧ vs 26 = .bool false := hn 26 (by decide)
          rw [g70] at e70
          clear g70
          clear hn ho hu
          go_simp
          exact hK _ _ (keeps_refl _) hI rfl
        · intro _ a w1 vs hI ho hn hu K hK
          have e3 : a.tmps[3]? = some (.slice (some ⟨b, o, none⟩) gs.length q2) := ho 3 rfl
          clear hn ho hu
          go_simp
          exact hK _ _ (keeps_refl _) hI rfl
        · intro _ a w1 vs hI ho hn hu K hK
          have e6 : a.tmps[6]? = some (.int .i64 (k : Int)) := ho 6 rfl
          clear hn ho hu
          go_simp
          exact hK _ _ (keeps_refl _) hI rfl
        · intro _ a w1 vs hI ho hn hu K hK
          obtain ⟨e72, g72⟩ : a.tmps[72]? = some (vs 28) ∧ vs 28 = .slice (some ⟨b, o, none⟩) gs.length q2 := hn 28 (by decide)
          rw [g72] at e72
          clear g72
          obtain ⟨e73, g73⟩ : a.tmps[73]? = some (vs 29) ∧ vs 29 = .int .i64 (k : Int) := hn 29 (by decide)
          rw [g73] at e73
          clear g73
          clear hn ho hu
          go_simp
          exact hK _ _ (keeps_refl _) hI rfl
        · intro _ a w1 vs hI ho hn hu K hK
          obtain ⟨e74, g74⟩ : a.tmps[74]? = some (vs 30) ∧ vs 30 = .pointer (some ⟨b, o + k * 4, none⟩) := hn 30 (by decide)
          rw [g74] at e74
          clear g74
          clear hn ho hu
          go_simp
          exact hK _ _ (keeps_refl _) hI rfl
        · intro _ a w1 vs hI ho hn hu K hK
          obtain ⟨e75, g75⟩ : a.tmps[75]? = some (vs 31) ∧ vs 31 = .pointer (some ⟨b, o + k * 4 + 2, none⟩) := hn 31 (by decide)
          rw [g75] at e75
          clear g75
          clear hn ho hu
          have c0 := keeps_cell hI K2.out
          go_simp
          exact hK _ _ (keeps_refl _) hI rfl
        · intro _ a w1 vs hI ho hn hu K hK
          obtain ⟨e76, g76⟩ : a.tmps[76]? = some (vs 32) ∧ vs 32 = .slice (some ⟨bc, oc, none⟩) g.length qc := hn 32 (by decide)
          rw [g76] at e76
          clear g76
          clear hn ho hu
          go_simp
          exact hK _ _ (keeps_refl _) hI rfl
        · intro _ a w1 vs hI ho hn hu K hK
          obtain ⟨e77, g77⟩ : a.tmps[77]? = some (vs 33) ∧ vs 33 = .int .i64 (g.length : Int) := hn 33 (by decide)
          rw [g77] at e77
          clear g77
          clear hn ho hu
          have z1 := HM0.out
          have z2 := HM1.out
          go_simp
          exact hK _ _ (keeps_refl _) hI rfl
        · intro _ a w1 vs hI ho hn hu K hK
          obtain ⟨e71, g71⟩ : a.tmps[71]? = some (vs 27) ∧ vs 27 = .bool false := hn 27 (by decide)
          rw [g71] at e71
          clear g71
          obtain ⟨e78, g78⟩ : a.tmps[78]? = some (vs 34) ∧ vs 34 = .bool false := hn 34 (by decide)
          rw [g78] at e78
          clear g78
          clear hn ho hu
          go_simp
          exact hK _ _ (keeps_refl _) hI rfl
      · intro vs wE hI hG
        have eL35 : vs 35 = .bool false := hG 35 (by decide)
        have HKE := Lib.hid hI
        clear hG hI
        simp only [setAll, Nat.zero_add, Nat.reduceAdd, List.setIfInBounds_toArray, List.set_cons_zero, List.set_cons_succ, eL35]
        clear eL35
        generalize vs 0 = y0 at *
        generalize vs 1 = y1 at *
        generalize vs 2 = y2 at *
        generalize vs 3 = y3 at *
        generalize vs 4 = y4 at *
        generalize vs 5 = y5 at *
        generalize vs 6 = y6 at *
        generalize vs 7 = y7 at *
        generalize vs 8 = y8 at *
        generalize vs 9 = y9 at *
        generalize vs 10 = y10 at *
        generalize vs 11 = y11 at *
        generalize vs 12 = y12 at *
        generalize vs 13 = y13 at *
        generalize vs 14 = y14 at *
        generalize vs 15 = y15 at *
        generalize vs 16 = y16 at *
        generalize vs 17 = y17 at *
        generalize vs 18 = y18 at *
        generalize vs 19 = y19 at *
        generalize vs 20 = y20 at *
        generalize vs 21 = y21 at *
        generalize vs 22 = y22 at *
        generalize vs 23 = y23 at *
        generalize vs 24 = y24 at *
        generalize vs 25 = y25 at *
        generalize vs 26 = y26 at *
        generalize vs 27 = y27 at *
        generalize vs 28 = y28 at *
        generalize vs 29 = y29 at *
        generalize vs 30 = y30 at *
        generalize vs 31 = y31 at *
        generalize vs 32 = y32 at *
        generalize vs 33 = y33 at *
        generalize vs 34 = y34 at *
        have HKA : Hid (Keeps w2 wE) := hK.out.trans HKE.out
        have HA1 := Lib.hid (OwnSeq.chg (T := fun _ => False) hA.out (Kept.any HKE.out) (fun _ _ x => x) fun _ _ _ x => x)
        have K0 := Lib.hid (keeps_cell HKE.out K0.out)
        have K1 := Lib.hid (keeps_cell HKE.out K1.out)
        have K2 := Lib.hid (keeps_cell HKE.out K2.out)
        have K3 := Lib.hid (keeps_cell HKE.out K3.out)
        have HTC := Lib.hid (SeqAt.keeps HTC.out HKE.out)
        have HPC := Lib.hid (RecAt.keeps HPC.out HKE.out)
        obtain ⟨wi, rfl⟩ : ∃ wi : World, wi = wE := ⟨_, rfl⟩
        clear hA hK HKE HM0 HM1 HSU
        have k3 := K3.out
        go_wp2_with fail
        go_loopw [7, 8, 9] (fun z own j wy => ∃ jj : Nat, jj ≤ g.length ∧ j = .int .i64 jj ∧ z = .int .i64 (total (g.take jj) : Int) ∧ Hid (OwnSeq wi.heap.size 9 IsText wy own (g.take jj)) ∧ Hid (Keeps wi wy)) (fun _ _ j _ => g.length - (intOf j).toNat)
        case atStart => exact ⟨0, by omega, rfl, rfl, by exact OwnSeq.nil _ _ _ _, keeps_refl wi⟩
        case round =>
          clear k3
          obtain ⟨j, hj, rfl, rfl, hO, hY⟩ := hrel
          have Y0 := Lib.hid (keeps_cell hY.out K0.out)
          have Y1 := Lib.hid (keeps_cell hY.out K1.out)
          have Y2 := Lib.hid (keeps_cell hY.out K2.out)
          have Y3 := Lib.hid (keeps_cell hY.out K3.out)
          have k3 := Y3.out
          by_cases hlj : j < g.length
          · as_aux_lemma =>
            have hlj64 : (j : Int) < (g.length : Int) := by omega
            have hj0 : (0 : Int) ≤ (j : Int) := by omega
            obtain ⟨us, hus, hpc, hpe⟩ := rec_at (RecAt.keeps HPC.out hY.out) (i := j) (by rw [places_length]; exact hlj)
            rw [places_at hlj] at hpe
            unfold IsPlace placeP at hpe
            subst hpe
            have d0 := hpc 0 (by simp)
            have d1 := hpc 1 (by simp)
            have d2 := hpc 2 (by simp)
            simp only [List.getElem_cons_zero, List.getElem_cons_succ, Nat.add_zero, HDE.out] at d0 d1 d2
            rw [offP_nat] at d1
            obtain ⟨u, yc, r1⟩ := seq_at (SeqAt.keeps HTC.out hY.out) (i := j) (by rw [List.length_map]; exact hlj)
            unfold IsText at r1
            subst r1
            rw [List.getElem_map, ← atP_get hlj] at yc
            have hfit := chunk_fits hlj
            have hci := chunkIn hlj
            rw [HBE.out] at hfit hci
            have hcs := (m4 j hlj)
            have hc1 := (mayP_size HMP.out hlj).1
            have htk := total_take hlj
            have htl := total_le g (j + 1)
            have HSP := Lib.hid (take_snoc hlj)
            generalize atP g j = s at *
            generalize hf : (headP g).length + total (g.take j) = f at *
            have HSL := Lib.hid (sliceAt B s f hfit hci)
            have HZ0 : Hid (decide ((f : Int) < 0) = false) := decide_eq_false (by omega)
            have HZ1 : Hid (decide ((s.size : Int) < 1) = false) := decide_eq_false (by omega)
            have HWS : Hid (IntKind.i64.wrap ((f : Int) + (s.size : Int)) = (f : Int) + (s.size : Int)) := IntWalk.i64_in _ (by omega)
            have HZ2 : Hid (decide ((B.size : Int) < (f : Int) + (s.size : Int)) = false) := decide_eq_false (by omega)
            have HZ3 : Hid (decide (B.size < f + s.size) = false) := decide_eq_false (by omega)
            have HSS := Lib.hid (fun wx => dsum_any s wx (by omega))
            have HTK := Lib.hid htk
            have htb : total (g.take j) + s.size ≤ 20000 := by omega
            clear hus hpc hfit hci hf htk htl
            obtain ⟨w6, hw6⟩ : ∃ w6, w6 = wr.alloc (.cells #[.string D, .int .i64 (f : Int), .int .i64 (s.size : Int)] 54) := ⟨_, rfl⟩
            have hk6 : Keeps wr w6 := by rw [hw6]; exact kal _ _
            have HBX : Hid (BlkAt w6 wr.heap.size 54 #[.string D, .int .i64 (f : Int), .int .i64 (s.size : Int)]) := by rw [hw6]; exact BlkAt.new _ _ _
            go_wp2_with (refine wpList_store_row rfl 54 (.tmp 10) (.tmp 97) rfl wr.heap.size #[.string D, .int .i64 (f : Int), .int .i64 (s.size : Int)] rfl rfl 54 _ (heap_alloc_last wr _) (by kernel_rfl) rfl (placeA_one D f s.size) ?_; rw [World.setRow_alloc_new])
            rw [← hw6]
            simp only [Act.put]
            have hO6 := Lib.hid (OwnSeq.chg (T := fun _ => False) hO.out (Kept.any hk6) (fun _ _ x => x) fun _ _ _ x => x)
            have hY6 := Lib.hid (hY.out.trans hk6)
            have Y0 := Lib.hid (keeps_cell hk6 Y0.out)
            have Y1 := Lib.hid (keeps_cell hk6 Y1.out)
            have Y2 := Lib.hid (keeps_cell hk6 Y2.out)
            have YC := Lib.hid (keeps_cell hk6 yc)
            clear hw6 hk6 d0 d1 d2 yc k3 Y3 hO hY
            generalize wr.heap.size = BX at *
            have X0 : Hid (w6.cell? ⟨BX, 0, none⟩ = some (.string D)) := HBX.out.cell rfl
            have X1 : Hid (w6.cell? ⟨BX, 1, none⟩ = some (.int .i64 (f : Int))) := HBX.out.cell rfl
            have X2 : Hid (w6.cell? ⟨BX, 2, none⟩ = some (.int .i64 (s.size : Int))) := HBX.out.cell rfl
            have HXT : Hid (typH w6.heap BX = some 54 ∧ 54 ≠ 9) := typ_blk HBX.out (by decide)
            clear HBX
            generalize hds : dgT s = ds at *
            clear hds
            refine wp_region_stage [98, 99, 100, 101, 102, 103, 104, 105, 106, 107, 108, 109, 110, 111, 112, 113, 114, 115, 116, 117, 118, 119, 120, 121, 122, 123, 124, 125, 126, 127, 128, 129] [[], [0], [], [], [2, 3], [4], [5], [1, 6], [7], [8], [8, 9], [8, 10], [8, 11], [12], [13], [13, 14], [13, 15], [13, 16], [17], [18], [18, 19], [18], [18, 21], [18, 20, 22], [18], [18], [18, 24, 25], [18, 26], [18, 27], [18, 28], [18, 23, 29], [18, 30]] [] [0, 0, 0, 0, 0, 0, 0, 0, 0, 0, 0, 0, 0, 0, 0, 0, 0, 0, 0, 0, 0, 0, 0, 0, 0, 0, 0, 0, 0, 0, 0, 0] [] (fun i v _ => ponce18 b o q2 gs.length k BX f B D s i v) (fun w w' => Keeps w w') (fun _ _ w' => Keeps w6 w') (by kernel_rfl) (by kernel_rfl) (by kernel_rfl) (by kernel_rfl) (by kernel_rfl) (by kernel_rfl) (by kernel_rfl) ?_ ?_ ?_ ?_ ?_ ?_ ?_
            · exact fun i v w w' c h => h
            · exact fun w => keeps_refl w
            · exact fun i s vs w _ h => h
            · refine ⟨?_, ?_, ?_, ?_, ?_, ?_, ?_, ?_, ?_, ?_, ?_, ?_, ?_, ?_, ?_, ?_, ?_, ?_, ?_, ?_, ?_, ?_, ?_, ?_, ?_, ?_, ?_, ?_, ?_, ?_, ?_, ?_, trivial⟩
              · exact fun g b h => by (cases h)
              · exact fun g b h => by (cases h)
              · exact fun g b h => by (cases h)
              · exact fun g b h => by (cases h)
              · exact fun g b h => by (cases h)
              · exact fun g b h => by (cases h)
              · exact fun g b h => by (cases h)
              · exact fun g b h => by (cases h)
              · exact fun g b h => by (cases h)
              · exact fun g b h => by (cases h; exact ⟨by decide, fun v w h => h⟩)
              · exact fun g b h => by (cases h; exact ⟨by decide, fun v w h => h⟩)
              · exact fun g b h => by (cases h; exact ⟨by decide, fun v w h => h⟩)
              · exact fun g b h => by (cases h)
              · exact fun g b h => by (cases h)
              · exact fun g b h => by (cases h; exact ⟨by decide, fun v w h => h⟩)
              · exact fun g b h => by (cases h; exact ⟨by decide, fun v w h => h⟩)
              · exact fun g b h => by (cases h; exact ⟨by decide, fun v w h => h⟩)
              · exact fun g b h => by (cases h)
              · exact fun g b h => by (cases h)
              · exact fun g b h => by (cases h; exact ⟨by decide, fun v w h => h⟩)
              · exact fun g b h => by (cases h; exact ⟨by decide, fun v w h => h⟩)
              · exact fun g b h => by (cases h; exact ⟨by decide, fun v w h => h⟩)
              · exact fun g b h => by (cases h; exact ⟨by decide, fun v w h => h⟩)
              · exact fun g b h => by (cases h; exact ⟨by decide, fun v w h => h⟩)
              · exact fun g b h => by (cases h; exact ⟨by decide, fun v w h => h⟩)
              · exact fun g b h => by (cases h; exact ⟨by decide, fun v w h => h⟩)
              · exact fun g b h => by (cases h; exact ⟨by decide, fun v w h => h⟩)
              · exact fun g b h => by (cases h; exact ⟨by decide, fun v w h => h⟩)
              · exact fun g b h => by (cases h; exact ⟨by decide, fun v w h => h⟩)
              · exact fun g b h => by (cases h; exact ⟨by decide, fun v w h => h⟩)
              · exact fun g b h => by (cases h; exact ⟨by decide, fun v w h => h⟩)
              · exact fun g b h => by (cases h)
            · exact fun _ _ => keeps_refl w6
            · refine ⟨?_, ?_, ?_, ?_, ?_, ?_, ?_, ?_, ?_, ?_, ?_, ?_, ?_, ?_, ?_, ?_, ?_, ?_, ?_, ?_, ?_, ?_, ?_, ?_, ?_, ?_, ?_, ?_, ?_, ?_, ?_, ?_, trivial⟩
              · intro _ a w1 vs hI ho hn hu K hK
                have e10 : a.tmps[10]? = some (.pointer (some ⟨BX, 0, none⟩)) := ho 10 rfl
                clear hn ho hu
                go_simp
                exact hK _ _ (keeps_refl _) hI rfl
              · intro _ a w1 vs hI ho hn hu K hK
                obtain ⟨e98, g98⟩ : a.tmps[98]? = some (vs 0) ∧ vs 0 = .pointer (some ⟨BX, 0, none⟩) := hn 0 (by decide)
                rw [g98] at e98
                clear g98
                clear hn ho hu
                have c0 := keeps_cell hI X0.out
                go_simp
                exact hK _ _ (keeps_refl _) hI rfl
              · intro _ a w1 vs hI ho hn hu K hK
                have e3 : a.tmps[3]? = some (.slice (some ⟨b, o, none⟩) gs.length q2) := ho 3 rfl
                clear hn ho hu
                go_simp
                exact hK _ _ (keeps_refl _) hI rfl
              · intro _ a w1 vs hI ho hn hu K hK
                have e6 : a.tmps[6]? = some (.int .i64 (k : Int)) := ho 6 rfl
                clear hn ho hu
                go_simp
                exact hK _ _ (keeps_refl _) hI rfl
              · intro _ a w1 vs hI ho hn hu K hK
                obtain ⟨e100, g100⟩ : a.tmps[100]? = some (vs 2) ∧ vs 2 = .slice (some ⟨b, o, none⟩) gs.length q2 := hn 2 (by decide)
                rw [g100] at e100
                clear g100
                obtain ⟨e101, g101⟩ : a.tmps[101]? = some (vs 3) ∧ vs 3 = .int .i64 (k : Int) := hn 3 (by decide)
                rw [g101] at e101
                clear g101
                clear hn ho hu
                go_simp
                exact hK _ _ (keeps_refl _) hI rfl
              · intro _ a w1 vs hI ho hn hu K hK
                obtain ⟨e102, g102⟩ : a.tmps[102]? = some (vs 4) ∧ vs 4 = .pointer (some ⟨b, o + k * 4, none⟩) := hn 4 (by decide)
                rw [g102] at e102
                clear g102
                clear hn ho hu
                go_simp
                exact hK _ _ (keeps_refl _) hI rfl
              · intro _ a w1 vs hI ho hn hu K hK
                obtain ⟨e103, g103⟩ : a.tmps[103]? = some (vs 5) ∧ vs 5 = .pointer (some ⟨b, o + k * 4 + 1, none⟩) := hn 5 (by decide)
                rw [g103] at e103
                clear g103
                clear hn ho hu
                have c0 := keeps_cell hI Y1.out
                go_simp
                exact hK _ _ (keeps_refl _) hI rfl
              · intro _ a w1 vs hI ho hn hu K hK
                obtain ⟨e99, g99⟩ : a.tmps[99]? = some (vs 1) ∧ vs 1 = .string D := hn 1 (by decide)
                rw [g99] at e99
                clear g99
                obtain ⟨e104, g104⟩ : a.tmps[104]? = some (vs 6) ∧ vs 6 = .string D := hn 6 (by decide)
                rw [g104] at e104
                clear g104
                clear hn ho hu
                go_simp
                exact hK _ _ (keeps_refl _) hI rfl
              · intro _ a w1 vs hI ho hn hu K hK
                obtain ⟨e105, g105⟩ : a.tmps[105]? = some (vs 7) ∧ vs 7 = .bool false := hn 7 (by decide)
                rw [g105] at e105
                clear g105
                clear hn ho hu
                go_simp
                exact hK _ _ (keeps_refl _) hI rfl
              · intro _ a w1 vs hI ho hn hu K hK
                have e10 : a.tmps[10]? = some (.pointer (some ⟨BX, 0, none⟩)) := ho 10 rfl
                clear hn ho hu
                go_simp
                exact hK _ _ (keeps_refl _) hI rfl
              · intro _ a w1 vs hI ho hn hu K hK
                obtain ⟨e107, g107⟩ : a.tmps[107]? = some (vs 9) ∧ vs 9 = .pointer (some ⟨BX, 1, none⟩) := hn 9 (by decide)
                rw [g107] at e107
                clear g107
                clear hn ho hu
                have c0 := keeps_cell hI X1.out
                go_simp
                exact hK _ _ (keeps_refl _) hI rfl
              · intro _ a w1 vs hI ho hn hu K hK
                obtain ⟨e108, g108⟩ : a.tmps[108]? = some (vs 10) ∧ vs 10 = .int .i64 (f : Int) := hn 10 (by decide)
                rw [g108] at e108
                clear g108
                clear hn ho hu
                have z1 := HZ0.out
                go_simp
                exact hK _ _ (keeps_refl _) hI rfl
              · intro _ a w1 vs hI ho hn hu K hK
                obtain ⟨e106, g106⟩ : a.tmps[106]? = some (vs 8) ∧ vs 8 = .bool false := hn 8 (by decide)
                rw [g106] at e106
                clear g106
                obtain ⟨e109, g109⟩ : a.tmps[109]? = some (vs 11) ∧ vs 11 = .bool false := hn 11 (by decide)
                rw [g109] at e109
                clear g109
                clear hn ho hu
                go_simp
                exact hK _ _ (keeps_refl _) hI rfl
              · intro _ a w1 vs hI ho hn hu K hK
                obtain ⟨e110, g110⟩ : a.tmps[110]? = some (vs 12) ∧ vs 12 = .bool false := hn 12 (by decide)
                rw [g110] at e110
                clear g110
                clear hn ho hu
                go_simp
                exact hK _ _ (keeps_refl _) hI rfl
              · intro _ a w1 vs hI ho hn hu K hK
                have e10 : a.tmps[10]? = some (.pointer (some ⟨BX, 0, none⟩)) := ho 10 rfl
                clear hn ho hu
                go_simp
                exact hK _ _ (keeps_refl _) hI rfl
              · intro _ a w1 vs hI ho hn hu K hK
                obtain ⟨e112, g112⟩ : a.tmps[112]? = some (vs 14) ∧ vs 14 = .pointer (some ⟨BX, 2, none⟩) := hn 14 (by decide)
                rw [g112] at e112
                clear g112
                clear hn ho hu
                have c0 := keeps_cell hI X2.out
                go_simp
                exact hK _ _ (keeps_refl _) hI rfl
              · intro _ a w1 vs hI ho hn hu K hK
                obtain ⟨e113, g113⟩ : a.tmps[113]? = some (vs 15) ∧ vs 15 = .int .i64 (s.size : Int) := hn 15 (by decide)
                rw [g113] at e113
                clear g113
                clear hn ho hu
                have z1 := HZ1.out
                go_simp
                exact hK _ _ (keeps_refl _) hI rfl
              · intro _ a w1 vs hI ho hn hu K hK
                obtain ⟨e111, g111⟩ : a.tmps[111]? = some (vs 13) ∧ vs 13 = .bool false := hn 13 (by decide)
                rw [g111] at e111
                clear g111
                obtain ⟨e114, g114⟩ : a.tmps[114]? = some (vs 16) ∧ vs 16 = .bool false := hn 16 (by decide)
                rw [g114] at e114
                clear g114
                clear hn ho hu
                go_simp
                exact hK _ _ (keeps_refl _) hI rfl
              · intro _ a w1 vs hI ho hn hu K hK
                obtain ⟨e115, g115⟩ : a.tmps[115]? = some (vs 17) ∧ vs 17 = .bool false := hn 17 (by decide)
                rw [g115] at e115
                clear g115
                clear hn ho hu
                go_simp
                exact hK _ _ (keeps_refl _) hI rfl
              · intro _ a w1 vs hI ho hn hu K hK
                have e10 : a.tmps[10]? = some (.pointer (some ⟨BX, 0, none⟩)) := ho 10 rfl
                clear hn ho hu
                go_simp
                exact hK _ _ (keeps_refl _) hI rfl
              · intro _ a w1 vs hI ho hn hu K hK
                obtain ⟨e117, g117⟩ : a.tmps[117]? = some (vs 19) ∧ vs 19 = .pointer (some ⟨BX, 1, none⟩) := hn 19 (by decide)
                rw [g117] at e117
                clear g117
                clear hn ho hu
                have c0 := keeps_cell hI X1.out
                go_simp
                exact hK _ _ (keeps_refl _) hI rfl
              · intro _ a w1 vs hI ho hn hu K hK
                have e10 : a.tmps[10]? = some (.pointer (some ⟨BX, 0, none⟩)) := ho 10 rfl
                clear hn ho hu
                go_simp
                exact hK _ _ (keeps_refl _) hI rfl
              · intro _ a w1 vs hI ho hn hu K hK
                obtain ⟨e119, g119⟩ : a.tmps[119]? = some (vs 21) ∧ vs 21 = .pointer (some ⟨BX, 2, none⟩) := hn 21 (by decide)
                rw [g119] at e119
                clear g119
                clear hn ho hu
                have c0 := keeps_cell hI X2.out
                go_simp
                exact hK _ _ (keeps_refl _) hI rfl
              · intro _ a w1 vs hI ho hn hu K hK
                obtain ⟨e118, g118⟩ : a.tmps[118]? = some (vs 20) ∧ vs 20 = .int .i64 (f : Int) := hn 20 (by decide)
                rw [g118] at e118
                clear g118
                obtain ⟨e120, g120⟩ : a.tmps[120]? = some (vs 22) ∧ vs 22 = .int .i64 (s.size : Int) := hn 22 (by decide)
                rw [g120] at e120
                clear g120
                clear hn ho hu
                go_simp
                rw [HWS.out]
                exact hK _ _ (keeps_refl _) hI rfl
              · intro _ a w1 vs hI ho hn hu K hK
                have e3 : a.tmps[3]? = some (.slice (some ⟨b, o, none⟩) gs.length q2) := ho 3 rfl
                clear hn ho hu
                go_simp
                exact hK _ _ (keeps_refl _) hI rfl
              · intro _ a w1 vs hI ho hn hu K hK
                have e6 : a.tmps[6]? = some (.int .i64 (k : Int)) := ho 6 rfl
                clear hn ho hu
                go_simp
                exact hK _ _ (keeps_refl _) hI rfl
              · intro _ a w1 vs hI ho hn hu K hK
                obtain ⟨e122, g122⟩ : a.tmps[122]? = some (vs 24) ∧ vs 24 = .slice (some ⟨b, o, none⟩) gs.length q2 := hn 24 (by decide)
                rw [g122] at e122
                clear g122
                obtain ⟨e123, g123⟩ : a.tmps[123]? = some (vs 25) ∧ vs 25 = .int .i64 (k : Int) := hn 25 (by decide)
                rw [g123] at e123
                clear g123
                clear hn ho hu
                go_simp
                exact hK _ _ (keeps_refl _) hI rfl
              · intro _ a w1 vs hI ho hn hu K hK
                obtain ⟨e124, g124⟩ : a.tmps[124]? = some (vs 26) ∧ vs 26 = .pointer (some ⟨b, o + k * 4, none⟩) := hn 26 (by decide)
                rw [g124] at e124
                clear g124
                clear hn ho hu
                go_simp
                exact hK _ _ (keeps_refl _) hI rfl
              · intro _ a w1 vs hI ho hn hu K hK
                obtain ⟨e125, g125⟩ : a.tmps[125]? = some (vs 27) ∧ vs 27 = .pointer (some ⟨b, o + k * 4, none⟩) := hn 27 (by decide)
                rw [g125] at e125
                clear g125
                clear hn ho hu
                have c0 := keeps_cell hI Y0.out
                go_simp
                exact hK _ _ (keeps_refl _) hI rfl
              · intro _ a w1 vs hI ho hn hu K hK
                obtain ⟨e126, g126⟩ : a.tmps[126]? = some (vs 28) ∧ vs 28 = .string B := hn 28 (by decide)
                rw [g126] at e126
                clear g126
                clear hn ho hu
                go_simp
                exact hK _ _ (keeps_refl _) hI rfl
              · intro _ a w1 vs hI ho hn hu K hK
                obtain ⟨e121, g121⟩ : a.tmps[121]? = some (vs 23) ∧ vs 23 = .int .i64 ((f : Int) + (s.size : Int)) := hn 23 (by decide)
                rw [g121] at e121
                clear g121
                obtain ⟨e127, g127⟩ : a.tmps[127]? = some (vs 29) ∧ vs 29 = .int .i64 (B.size : Int) := hn 29 (by decide)
                rw [g127] at e127
                clear g127
                clear hn ho hu
                have z1 := HZ2.out
                have z2 := HZ3.out
                go_simp
                exact hK _ _ (keeps_refl _) hI rfl
              · intro _ a w1 vs hI ho hn hu K hK
                obtain ⟨e116, g116⟩ : a.tmps[116]? = some (vs 18) ∧ vs 18 = .bool false := hn 18 (by decide)
                rw [g116] at e116
                clear g116
                obtain ⟨e128, g128⟩ : a.tmps[128]? = some (vs 30) ∧ vs 30 = .bool false := hn 30 (by decide)
                rw [g128] at e128
                clear g128
                clear hn ho hu
                go_simp
                exact hK _ _ (keeps_refl _) hI rfl
            · intro vs wE hI hG
              have eL31 : vs 31 = .bool false := hG 31 (by decide)
              have HKE := Lib.hid hI
              clear hG hI
              simp only [setAll, Nat.zero_add, Nat.reduceAdd, List.setIfInBounds_toArray, List.set_cons_zero, List.set_cons_succ, eL31]
              clear eL31
              generalize vs 0 = y0 at *
              generalize vs 1 = y1 at *
              generalize vs 2 = y2 at *
              generalize vs 3 = y3 at *
              generalize vs 4 = y4 at *
              generalize vs 5 = y5 at *
              generalize vs 6 = y6 at *
              generalize vs 7 = y7 at *
              generalize vs 8 = y8 at *
              generalize vs 9 = y9 at *
              generalize vs 10 = y10 at *
              generalize vs 11 = y11 at *
              generalize vs 12 = y12 at *
              generalize vs 13 = y13 at *
              generalize vs 14 = y14 at *
              generalize vs 15 = y15 at *
              generalize vs 16 = y16 at *
              generalize vs 17 = y17 at *
              generalize vs 18 = y18 at *
              generalize vs 19 = y19 at *
              generalize vs 20 = y20 at *
              generalize vs 21 = y21 at *
              generalize vs 22 = y22 at *
              generalize vs 23 = y23 at *
              generalize vs 24 = y24 at *
              generalize vs 25 = y25 at *
              generalize vs 26 = y26 at *
              generalize vs 27 = y27 at *
              generalize vs 28 = y28 at *
              generalize vs 29 = y29 at *
              generalize vs 30 = y30 at *
              have HXT := Lib.hid (typ_keeps HKE.out HXT.out)
              have X1 := Lib.hid (keeps_cell HKE.out X1.out)
              have X2 := Lib.hid (keeps_cell HKE.out X2.out)
              have Y0 := Lib.hid (keeps_cell HKE.out Y0.out)
              have Y2 := Lib.hid (keeps_cell HKE.out Y2.out)
              have YC := Lib.hid (keeps_cell HKE.out YC.out)
              have hO7 := Lib.hid (OwnSeq.chg (T := fun _ => False) hO6.out (Kept.any HKE.out) (fun _ _ x => x) fun _ _ _ x => x)
              have hY7 := Lib.hid (hY6.out.trans HKE.out)
              obtain ⟨w7, rfl⟩ : ∃ w7 : World, w7 = wE := ⟨_, rfl⟩
              clear hO6 hY6 HKE Y1 X0
              go_wp2_with fail
              refine wp_region_stage [130, 131, 132, 133, 134, 135, 136, 137, 138, 139, 140, 141, 142, 11] [[], [], [0, 1], [2], [3], [], [5], [], [7], [], [9], [8, 10], [4, 6, 11], [12]] [] [0, 0, 0, 0, 0, 0, 0, 0, 0, 0, 0, 0, 0, 0] [] (fun i v _ => ponce20 b o q2 gs.length k BX f B s i v) (fun w w' => Keeps w w') (fun _ _ w' => Keeps w7 w') (by kernel_rfl) (by kernel_rfl) (by kernel_rfl) (by kernel_rfl) (by kernel_rfl) (by kernel_rfl) (by kernel_rfl) ?_ ?_ ?_ ?_ ?_ ?_ ?_
              · exact fun i v w w' c h => h
              · exact fun w => keeps_refl w
              · exact fun i s vs w _ h => h
              · refine ⟨?_, ?_, ?_, ?_, ?_, ?_, ?_, ?_, ?_, ?_, ?_, ?_, ?_, ?_, trivial⟩
                · exact fun g b h => by (cases h)
                · exact fun g b h => by (cases h)
                · exact fun g b h => by (cases h)
                · exact fun g b h => by (cases h)
                · exact fun g b h => by (cases h)
                · exact fun g b h => by (cases h)
                · exact fun g b h => by (cases h)
                · exact fun g b h => by (cases h)
                · exact fun g b h => by (cases h)
                · exact fun g b h => by (cases h)
                · exact fun g b h => by (cases h)
                · exact fun g b h => by (cases h)
                · exact fun g b h => by (cases h)
                · exact fun g b h => by (cases h)
              · exact fun _ _ => keeps_refl w7
              · refine ⟨?_, ?_, ?_, ?_, ?_, ?_, ?_, ?_, ?_, ?_, ?_, ?_, ?_, ?_, trivial⟩
                · intro _ a w1 vs hI ho hn hu K hK
                  have e3 : a.tmps[3]? = some (.slice (some ⟨b, o, none⟩) gs.length q2) := ho 3 rfl
                  clear hn ho hu
                  go_simp
                  exact hK _ _ (keeps_refl _) hI rfl
                · intro _ a w1 vs hI ho hn hu K hK
                  have e6 : a.tmps[6]? = some (.int .i64 (k : Int)) := ho 6 rfl
                  clear hn ho hu
                  go_simp
                  exact hK _ _ (keeps_refl _) hI rfl
                · intro _ a w1 vs hI ho hn hu K hK
                  obtain ⟨e130, g130⟩ : a.tmps[130]? = some (vs 0) ∧ vs 0 = .slice (some ⟨b, o, none⟩) gs.length q2 := hn 0 (by decide)
                  rw [g130] at e130
                  clear g130
                  obtain ⟨e131, g131⟩ : a.tmps[131]? = some (vs 1) ∧ vs 1 = .int .i64 (k : Int) := hn 1 (by decide)
                  rw [g131] at e131
                  clear g131
                  clear hn ho hu
                  go_simp
                  exact hK _ _ (keeps_refl _) hI rfl
                · intro _ a w1 vs hI ho hn hu K hK
                  obtain ⟨e132, g132⟩ : a.tmps[132]? = some (vs 2) ∧ vs 2 = .pointer (some ⟨b, o + k * 4, none⟩) := hn 2 (by decide)
                  rw [g132] at e132
                  clear g132
                  clear hn ho hu
                  go_simp
                  exact hK _ _ (keeps_refl _) hI rfl
                · intro _ a w1 vs hI ho hn hu K hK
                  obtain ⟨e133, g133⟩ : a.tmps[133]? = some (vs 3) ∧ vs 3 = .pointer (some ⟨b, o + k * 4, none⟩) := hn 3 (by decide)
                  rw [g133] at e133
                  clear g133
                  clear hn ho hu
                  have c0 := keeps_cell hI Y0.out
                  go_simp
                  exact hK _ _ (keeps_refl _) hI rfl
                · intro _ a w1 vs hI ho hn hu K hK
                  have e10 : a.tmps[10]? = some (.pointer (some ⟨BX, 0, none⟩)) := ho 10 rfl
                  clear hn ho hu
                  go_simp
                  exact hK _ _ (keeps_refl _) hI rfl
                · intro _ a w1 vs hI ho hn hu K hK
                  obtain ⟨e135, g135⟩ : a.tmps[135]? = some (vs 5) ∧ vs 5 = .pointer (some ⟨BX, 1, none⟩) := hn 5 (by decide)
                  rw [g135] at e135
                  clear g135
                  clear hn ho hu
                  have c0 := keeps_cell hI X1.out
                  go_simp
                  exact hK _ _ (keeps_refl _) hI rfl
                · intro _ a w1 vs hI ho hn hu K hK
                  have e10 : a.tmps[10]? = some (.pointer (some ⟨BX, 0, none⟩)) := ho 10 rfl
                  clear hn ho hu
                  go_simp
                  exact hK _ _ (keeps_refl _) hI rfl
                · intro _ a w1 vs hI ho hn hu K hK
                  obtain ⟨e137, g137⟩ : a.tmps[137]? = some (vs 7) ∧ vs 7 = .pointer (some ⟨BX, 1, none⟩) := hn 7 (by decide)
                  rw [g137] at e137
                  clear g137
                  clear hn ho hu
                  have c0 := keeps_cell hI X1.out
                  go_simp
                  exact hK _ _ (keeps_refl _) hI rfl
                · intro _ a w1 vs hI ho hn hu K hK
                  have e10 : a.tmps[10]? = some (.pointer (some ⟨BX, 0, none⟩)) := ho 10 rfl
                  clear hn ho hu
                  go_simp
                  exact hK _ _ (keeps_refl _) hI rfl
                · intro _ a w1 vs hI ho hn hu K hK
                  obtain ⟨e139, g139⟩ : a.tmps[139]? = some (vs 9) ∧ vs 9 = .pointer (some ⟨BX, 2, none⟩) := hn 9 (by decide)
                  rw [g139] at e139
                  clear g139
                  clear hn ho hu
                  have c0 := keeps_cell hI X2.out
                  go_simp
                  exact hK _ _ (keeps_refl _) hI rfl
                · intro _ a w1 vs hI ho hn hu K hK
                  obtain ⟨e138, g138⟩ : a.tmps[138]? = some (vs 8) ∧ vs 8 = .int .i64 (f : Int) := hn 8 (by decide)
                  rw [g138] at e138
                  clear g138
                  obtain ⟨e140, g140⟩ : a.tmps[140]? = some (vs 10) ∧ vs 10 = .int .i64 (s.size : Int) := hn 10 (by decide)
                  rw [g140] at e140
                  clear g140
                  clear hn ho hu
                  go_simp
                  rw [HWS.out]
                  exact hK _ _ (keeps_refl _) hI rfl
                · intro _ a w1 vs hI ho hn hu K hK
                  obtain ⟨e134, g134⟩ : a.tmps[134]? = some (vs 4) ∧ vs 4 = .string B := hn 4 (by decide)
                  rw [g134] at e134
                  clear g134
                  obtain ⟨e136, g136⟩ : a.tmps[136]? = some (vs 6) ∧ vs 6 = .int .i64 (f : Int) := hn 6 (by decide)
                  rw [g136] at e136
                  clear g136
                  obtain ⟨e141, g141⟩ : a.tmps[141]? = some (vs 11) ∧ vs 11 = .int .i64 ((f : Int) + (s.size : Int)) := hn 11 (by decide)
                  rw [g141] at e141
                  clear g141
                  clear hn ho hu
                  have rs := HSL.out
                  go_simp
                  exact hK _ _ (keeps_refl _) hI rfl
                · intro _ a w1 vs hI ho hn hu K hK
                  obtain ⟨e142, g142⟩ : a.tmps[142]? = some (vs 12) ∧ vs 12 = .string s := hn 12 (by decide)
                  rw [g142] at e142
                  clear g142
                  clear hn ho hu
                  go_simp
                  exact hK _ _ (keeps_refl _) hI rfl
              · intro vs wE hI hG
                have eL13 : vs 13 = .string s := hG 13 (by decide)
                have HKE := Lib.hid hI
                clear hG hI
                simp only [setAll, Nat.zero_add, Nat.reduceAdd, List.setIfInBounds_toArray, List.set_cons_zero, List.set_cons_succ, eL13]
                clear eL13
                generalize vs 0 = y0 at *
                generalize vs 1 = y1 at *
                generalize vs 2 = y2 at *
                generalize vs 3 = y3 at *
                generalize vs 4 = y4 at *
                generalize vs 5 = y5 at *
                generalize vs 6 = y6 at *
                generalize vs 7 = y7 at *
                generalize vs 8 = y8 at *
                generalize vs 9 = y9 at *
                generalize vs 10 = y10 at *
                generalize vs 11 = y11 at *
                generalize vs 12 = y12 at *
                have HXT := Lib.hid (typ_keeps HKE.out HXT.out)
                have X2 := Lib.hid (keeps_cell HKE.out X2.out)
                have Y2 := Lib.hid (keeps_cell HKE.out Y2.out)
                have YC := Lib.hid (keeps_cell HKE.out YC.out)
                have hO8 := Lib.hid (OwnSeq.chg (T := fun _ => False) hO7.out (Kept.any HKE.out) (fun _ _ x => x) fun _ _ _ x => x)
                have hY8 := Lib.hid (hY7.out.trans HKE.out)
                obtain ⟨w8, rfl⟩ : ∃ w8 : World, w8 = wE := ⟨_, rfl⟩
                clear hO7 hY7 HKE Y0 X1
                go_wp2_with fail
                refine wp_region_stage [143, 144, 145, 146, 147, 148, 149, 150, 151, 152, 153] [[], [0], [], [], [2, 3], [4], [5], [], [6, 7], [8], [1, 9]] [] [0, 0, 0, 0, 0, 0, 0, 0, 0, 0, 0] [] (fun i v _ => ponce21 b o q2 gs.length k j g.length bc oc qc s ds i v) (fun w w' => Keeps w w') (fun _ _ w' => Keeps w8 w') (by kernel_rfl) (by kernel_rfl) (by kernel_rfl) (by kernel_rfl) (by kernel_rfl) (by kernel_rfl) (by kernel_rfl) ?_ ?_ ?_ ?_ ?_ ?_ ?_
                · exact fun i v w w' c h => h
                · exact fun w => keeps_refl w
                · exact fun i s vs w _ h => h
                · refine ⟨?_, ?_, ?_, ?_, ?_, ?_, ?_, ?_, ?_, ?_, ?_, trivial⟩
                  · exact fun g b h => by (cases h)
                  · exact fun g b h => by (cases h)
                  · exact fun g b h => by (cases h)
                  · exact fun g b h => by (cases h)
                  · exact fun g b h => by (cases h)
                  · exact fun g b h => by (cases h)
                  · exact fun g b h => by (cases h)
                  · exact fun g b h => by (cases h)
                  · exact fun g b h => by (cases h)
                  · exact fun g b h => by (cases h)
                  · exact fun g b h => by (cases h)
                · exact fun _ _ => keeps_refl w8
                · refine ⟨?_, ?_, ?_, ?_, ?_, ?_, ?_, ?_, ?_, ?_, ?_, trivial⟩
                  · intro _ a w1 vs hI ho hn hu K hK
                    have e11 : a.tmps[11]? = some (.string s) := ho 11 rfl
                    clear hn ho hu
                    go_simp
                    exact hK _ _ (keeps_refl _) hI rfl
                  · intro _ a w1 vs hI ho hn hu K hK
                    obtain ⟨e143, g143⟩ : a.tmps[143]? = some (vs 0) ∧ vs 0 = .string s := hn 0 (by decide)
                    rw [g143] at e143
                    clear g143
                    clear hn ho hu
                    go_simp
                    refine Calls.mono (HSS.out _) ?_
                    rintro e w' ⟨rfl, hk2⟩
                    go_simp
                    exact hK _ _ hk2 (Keeps.trans hI hk2) rfl
                  · intro _ a w1 vs hI ho hn hu K hK
                    have e3 : a.tmps[3]? = some (.slice (some ⟨b, o, none⟩) gs.length q2) := ho 3 rfl
                    clear hn ho hu
                    go_simp
                    exact hK _ _ (keeps_refl _) hI rfl
                  · intro _ a w1 vs hI ho hn hu K hK
                    have e6 : a.tmps[6]? = some (.int .i64 (k : Int)) := ho 6 rfl
                    clear hn ho hu
                    go_simp
                    exact hK _ _ (keeps_refl _) hI rfl
                  · intro _ a w1 vs hI ho hn hu K hK
                    obtain ⟨e145, g145⟩ : a.tmps[145]? = some (vs 2) ∧ vs 2 = .slice (some ⟨b, o, none⟩) gs.length q2 := hn 2 (by decide)
                    rw [g145] at e145
                    clear g145
                    obtain ⟨e146, g146⟩ : a.tmps[146]? = some (vs 3) ∧ vs 3 = .int .i64 (k : Int) := hn 3 (by decide)
                    rw [g146] at e146
                    clear g146
                    clear hn ho hu
                    go_simp
                    exact hK _ _ (keeps_refl _) hI rfl
                  · intro _ a w1 vs hI ho hn hu K hK
                    obtain ⟨e147, g147⟩ : a.tmps[147]? = some (vs 4) ∧ vs 4 = .pointer (some ⟨b, o + k * 4, none⟩) := hn 4 (by decide)
                    rw [g147] at e147
                    clear g147
                    clear hn ho hu
                    go_simp
                    exact hK _ _ (keeps_refl _) hI rfl
                  · intro _ a w1 vs hI ho hn hu K hK
                    obtain ⟨e148, g148⟩ : a.tmps[148]? = some (vs 5) ∧ vs 5 = .pointer (some ⟨b, o + k * 4 + 2, none⟩) := hn 5 (by decide)
                    rw [g148] at e148
                    clear g148
                    clear hn ho hu
                    have c0 := keeps_cell hI Y2.out
                    go_simp
                    exact hK _ _ (keeps_refl _) hI rfl
                  · intro _ a w1 vs hI ho hn hu K hK
                    have e9 : a.tmps[9]? = some (.int .i64 (j : Int)) := ho 9 rfl
                    clear hn ho hu
                    go_simp
                    exact hK _ _ (keeps_refl _) hI rfl
                  · intro _ a w1 vs hI ho hn hu K hK
                    obtain ⟨e149, g149⟩ : a.tmps[149]? = some (vs 6) ∧ vs 6 = .slice (some ⟨bc, oc, none⟩) g.length qc := hn 6 (by decide)
                    rw [g149] at e149
                    clear g149
                    obtain ⟨e150, g150⟩ : a.tmps[150]? = some (vs 7) ∧ vs 7 = .int .i64 (j : Int) := hn 7 (by decide)
                    rw [g150] at e150
                    clear g150
                    clear hn ho hu
                    go_simp
                    exact hK _ _ (keeps_refl _) hI rfl
                  · intro _ a w1 vs hI ho hn hu K hK
                    obtain ⟨e151, g151⟩ : a.tmps[151]? = some (vs 8) ∧ vs 8 = .pointer (some ⟨bc, oc + j, none⟩) := hn 8 (by decide)
                    rw [g151] at e151
                    clear g151
                    clear hn ho hu
                    have c0 := keeps_cell hI YC.out
                    go_simp
                    exact hK _ _ (keeps_refl _) hI rfl
                  · intro _ a w1 vs hI ho hn hu K hK
                    obtain ⟨e144, g144⟩ : a.tmps[144]? = some (vs 1) ∧ vs 1 = .string ds := hn 1 (by decide)
                    rw [g144] at e144
                    clear g144
                    obtain ⟨e152, g152⟩ : a.tmps[152]? = some (vs 9) ∧ vs 9 = .string ds := hn 9 (by decide)
                    rw [g152] at e152
                    clear g152
                    clear hn ho hu
                    go_simp
                    exact hK _ _ (keeps_refl _) hI rfl
                · intro vs wE hI hG
                  have eL10 : vs 10 = .bool false := hG 10 (by decide)
                  have HKE := Lib.hid hI
                  clear hG hI
                  simp only [setAll, Nat.zero_add, Nat.reduceAdd, List.setIfInBounds_toArray, List.set_cons_zero, List.set_cons_succ, eL10]
                  clear eL10
                  generalize vs 0 = y0 at *
                  generalize vs 1 = y1 at *
                  generalize vs 2 = y2 at *
                  generalize vs 3 = y3 at *
                  generalize vs 4 = y4 at *
                  generalize vs 5 = y5 at *
                  generalize vs 6 = y6 at *
                  generalize vs 7 = y7 at *
                  generalize vs 8 = y8 at *
                  generalize vs 9 = y9 at *
                  have HXT := Lib.hid (typ_keeps HKE.out HXT.out)
                  have x2 := keeps_cell HKE.out X2.out
                  have hO9 := Lib.hid (OwnSeq.chg (T := fun _ => False) hO8.out (Kept.any HKE.out) (fun _ _ x => x) fun _ _ _ x => x)
                  have hY9 := Lib.hid (hY8.out.trans HKE.out)
                  obtain ⟨w9, rfl⟩ : ∃ w9 : World, w9 = wE := ⟨_, rfl⟩
                  clear hO8 hY8 HKE X2 Y2 YC
                  obtain ⟨us, hu1, hu2, hu3⟩ := hO9.out
                  have hul : us.length = j := by rw [hu2, List.length_take]; omega
                  have HU := Lib.hid hu1
                  have HU2 := Lib.hid hu2
                  have HU3 := Lib.hid hu3
                  obtain ⟨po, qo, rfl⟩ := own_slice hu1
                  have hbz := hY9.out.size
                  have hul2 : us.length ≤ 4096 := by omega
                  clear hu1 hu2 hu3 hul
                  go_wp2_with (at_builtin; refine wp_app1 elText rfl (.tmp 154) (.tmp 156) rfl wi.heap.size (.slice po us.length qo) us rfl (HU.out.alloc _) _ (.string s) rfl (World.cell?_alloc_new _ _ _ _) rfl (by omega) (by simp; omega) ?_; intro v' wq hown hch; have x2 : wq.cell? ⟨BX, 2, none⟩ = some (.int .i64 (s.size : Int)) := (BlkAt.past_cell (keeps_cell (kal w9 _) x2) (typ_keeps (kal w9 _) HXT.out) (HU.out.alloc _) hch); have HO5 : Hid (OwnSeq wi.heap.size 9 IsText wq v' (g.take (j + 1))) := (by show OwnSeq _ _ _ _ _ _; rw [HSP.out]; exact OwnSeq.push (R := IsText) (R' := IsText) HU2.out HU3.out hown (fun _ _ _ x => x) rfl); have HK5 : Hid (Keeps wi wq) := (hY9.out.trans (kal w9 _)).then (chg_kept hch (fun x _ e => (own_block HU.out x e).1) (by simp; omega)) (Nat.le_refl _); clear hown hch)
                  exact ⟨⟨j + 1, by omega, by go_num, by rw [HTK.out]; go_num, HO5, HK5⟩, by simp [intOf]; omega⟩
          · obtain rfl : j = g.length := by omega
            have hgt : g.take g.length = g := List.take_length
            have HO : Hid (OwnSeq wi.heap.size 9 IsText wr u8 g) := by have h := hO.out; rw [hgt] at h; exact h
            rw [hgt]
            have HT : Hid (TextsAt wr.heap u8 g) := SeqIn.at_ (HO.out.seq (by omega))
            obtain ⟨b3, o3, q3, _, rfl, _, _⟩ := seq_cell HT.out (i := 0) hpos
            have HA2 := Lib.hid (OwnSeq.chg (T := fun _ => False) HA1.out (Kept.any hY.out) (fun _ _ x => x) fun _ _ _ x => x)
            have HAB : Hid (∀ x, u5.ownBlock = some x → x < wi.heap.size) := by
              obtain ⟨us, hu1, _, _⟩ := HA1.out
              exact fun x e => (own_block hu1 x e).2.1
            have HAC : Hid (∀ x, u5.ownBlock = some x → w2.heap.size ≤ x) := by
              obtain ⟨us, hu1, _, _⟩ := HA1.out
              exact fun x e => (own_block hu1 x e).1
            obtain ⟨us, hu1, hu2, hu3⟩ := HA2.out
            obtain ⟨po, qo, rfl⟩ := own_slice hu1
            have HU := Lib.hid hu1
            have HU2 := Lib.hid hu2
            have HU3 := Lib.hid hu3
            have hul : us.length + g.length ≤ 4000 := by rw [hu2]; exact hcn
            have HMM : Hid ((g.map (Value.string ·)).length = g.length) := List.length_map ..
            have hbase : w2.heap.size ≤ wr.heap.size := (HKA.out.trans hY.out).size
            obtain ⟨w9, hw9⟩ : ∃ w9 : World, w9 = wr := ⟨_, rfl⟩
            rw [← hw9] at HU HT HO hbase hY k3 ⊢
            clear hu1 hu2 hu3 hgt hO HA1 HA2 Y0 Y1 Y2 Y3 hw9
            go_wp2_with (at_builtin; refine wp_apps elText rfl (.tmp 162) (.tmp 163) rfl w2.heap.size (.slice po us.length qo) us rfl HU.out b3 o3 g.length q3 (g.map (Value.string ·)) rfl HMM.out (texts_news HT.out) (texts_one g) (by rw [HMM.out]; omega) hbase ?_)
            intro v' w10 hown hch
            have HT0 : Hid (TextsAt w10.heap (.slice (some ⟨b3, o3, none⟩) g.length q3) g) := SeqIn.at_ ((HO.out.chg hch (fun x e e2 => by have h1 := HAB.out x e2; have h2 := (HO.out.choose_spec).1; exact absurd ((own_block h2 x e).1) (by omega)) (fun _ _ _ x => x)).seq (by omega))
            have HO10 : Hid (OwnSeq w2.heap.size 9 IsText w10 v' (gs.take (k + 1)).flatten) := by
              show OwnSeq _ _ _ _ _ _
              rw [HFS.out]
              exact own_texts HU2.out HU3.out hown
            have HK10 : Hid (Keeps w2 w10) := (HKA.out.trans hY.out).then (chg_kept hch (fun x _ e => HAC.out x e) hbase) (Nat.le_refl _)
            clear hown hch HU HU2 HU3 HT HO HAB HAC hbase k3 hY HKA HMM hul
            go_upto_region 26 with (fail)
            go_cut [192] (fun s wx => s = .bool false ∧ wx = w10)
            case first => as_aux_lemma =>
              have htt : (g.length : Int) ≤ 4000 := by omega
              have hg1 : decide ((1 : Int) < (g.length : Int)) = false ∨ (decide ((1 : Int) < (g.length : Int)) = true ∧ decide ((4096 : Int) < (total g : Int)) = false) := by
                rcases (mayP_iff.1 HMP.out).2.2.2 with h | h
                · exact .inl (decide_eq_false (by omega))
                · by_cases h2 : g.length = 1
                  · exact .inl (decide_eq_false (by omega))
                  · exact .inr ⟨decide_eq_true (by omega), decide_eq_false (by omega)⟩
              by_cases hnx : k + 1 < gs.length
              · obtain ⟨b5, o5, _, us5, e5, _, hc5, c5, pp5, rfl, ht5, hp5⟩ := rec_cell HR.out hnx
                injection e5 with e6 e7 e8
                injection e6 with e6
                injection e6 with e6 e9
                subst e6 e9
                clear e7 e8
                rw [← grp_get hnx] at hp5 hc5
                have hn5 := mayP_ne (HGD.out _ (grp_mem hnx))
                have hpos5 : 0 < (grp gs (k + 1)).length := List.length_pos_iff.2 hn5
                obtain ⟨b6, o6, q6, us6, rfl, hus6, hc6, hv6⟩ := rec_cell hp5.at_ (i := 0) (by rw [places_length]; exact hpos5)
                have x5 := keeps_cell HK10.out (hc5 3 (by simp))
                rw [places_at hpos5] at hv6
                unfold IsPlace placeP at hv6
                subst hv6
                have x6 := keeps_cell HK10.out (hc6 2 (by simp))
                simp only [List.getElem_cons_zero, List.getElem_cons_succ, Nat.add_zero, Nat.zero_mul, places_length] at x5 x6
                have hap := HAP.out hnx
                have hz5 := (mayP_size (HGD.out _ (grp_mem hnx)) hpos5).2
                generalize (grp gs (k + 1)).length = n5 at *
                generalize (atP (grp gs (k + 1)) 0).size = z5 at *
                have hn1 : decide ((k : Int) + 1 < (gs.length : Int)) = true := decide_eq_true (by omega)
                have hn2 : decide ((total g : Int) + (z5 : Int) ≤ 4096) = false := decide_eq_false (by omega)
                have hn3 : (k : Int) + 1 < (gs.length : Int) := by omega
                have hn4 : IntKind.i64.wrap ((k : Int) + 1) = (k : Int) + 1 := IntWalk.i64_in _ (by omega)
                have hn5 : IntKind.i64.wrap ((total g : Int) + (z5 : Int)) = (total g : Int) + (z5 : Int) := IntWalk.i64_in _ (by omega)
                have hn6 : ((k : Int) + 1).toNat = k + 1 := by omega
                have hn7 : (0 : Int) ≤ (k : Int) + 1 := by omega
                have hn8 : (0 : Int) < (n5 : Int) := by omega
                clear hc5 hc6 hap
                rcases hg1 with h | ⟨h1, h2⟩
                all_goals
                  go_wp2_with fail
                  go_meet
                  exact ⟨rfl, rfl⟩
              · have hn1 : decide ((k : Int) + 1 < (gs.length : Int)) = false := decide_eq_false (by omega)
                have hn4 : IntKind.i64.wrap ((k : Int) + 1) = (k : Int) + 1 := IntWalk.i64_in _ (by omega)
                rcases hg1 with h | ⟨h1, h2⟩
                all_goals
                  go_wp2_with fail
                  go_meet
                  exact ⟨rfl, rfl⟩
            case rest => as_aux_lemma =>
              obtain ⟨hcs, hcw⟩ := hcut
              subst hcs
              subst hcw
              obtain ⟨wx, rfl⟩ : ∃ wx : World, wx = wc := ⟨_, rfl⟩
              go_wp2_with fail
              refine Calls.mono (give_yes (gather_any _ g _ HT0.out (by omega) (by omega)) (badG_self HMP.out) (gath_self HMP.out)) ?_
              rintro e w11 ⟨v11, rfl, hr, hk⟩
              have HK11 := Lib.hid (HK10.out.trans hk)
              obtain ⟨ba, oa, qa, us11, rfl, _, hc11, c11, p11, rfl, _, _⟩ := rec_cell hr.at_ (i := 0) (by simp)
              have A0 := hc11 0 (by simp)
              simp only [List.getElem_cons_zero, Nat.zero_mul, Nat.add_zero, HBE.out] at A0
              have A0 := Lib.hid A0
              have z1 := keeps_cell HK11.out W0.out
              have HO11 := Lib.hid (OwnSeq.chg (T := fun _ => False) HO10.out (Kept.any hk) (fun _ _ x => x) fun _ _ _ x => x)
              have HRP : Hid (readP B.data.toList = (g, offsP g, 0)) := by
                show _ = _
                rw [← HBE.out]; exact read_make HMP.out
              simp only [List.length_singleton]
              clear hr hk hc11 HT0 HK10 HO10
              go_wp2_with fail
              refine Calls.mono (readP_to (pread_any B _ (by omega)) HRP.out) ?_
              rintro e w14 ⟨vt, uo, rfl, h1, _, hk⟩
              obtain ⟨pt, qt, rfl⟩ := seq_shape (SeqIn.at_ h1)
              have A0 := Lib.hid (keeps_cell hk A0.out)
              have Z0 := Lib.hid (keeps_cell hk z1)
              have HK14 := Lib.hid (HK11.out.trans hk)
              have HO14 := Lib.hid (OwnSeq.chg (T := fun _ => False) HO11.out (Kept.any hk) (fun _ _ x => x) fun _ _ _ x => x)
              clear HK11 HO11 hk h1 z1 HRP
              go_wp2_with fail
              refine wp_region_stage [208, 209, 210, 211, 212, 213, 214, 215, 216, 217, 218, 219, 220, 221, 222, 223, 224, 225, 226, 227, 228, 229, 230, 231, 232, 233, 234, 235, 236, 237] [[], [0], [1], [2], [2, 3], [2, 4], [2, 5], [6], [7], [7, 8], [7, 9], [7, 10], [7], [7], [7, 12, 13], [7, 14], [7, 15], [7, 11, 16], [7, 17], [18], [19], [19, 20], [19, 21], [22], [23], [23, 24], [23], [23, 26], [23, 25, 27], [23, 28]] [] [0, 0, 0, 0, 0, 0, 0, 0, 0, 0, 0, 0, 0, 0, 0, 0, 0, 0, 0, 0, 0, 0, 0, 0, 0, 0, 0, 0, 0, 0] [] (fun i v _ => ponce30 b o q2 gs.length k g.length ba oa qa qt b3 o3 q3 pt B i v) (fun w w' => Keeps w w') (fun _ _ w' => Keeps w14 w') (by kernel_rfl) (by kernel_rfl) (by kernel_rfl) (by kernel_rfl) (by kernel_rfl) (by kernel_rfl) (by kernel_rfl) ?_ ?_ ?_ ?_ ?_ ?_ ?_
              · exact fun i v w w' c h => h
              · exact fun w => keeps_refl w
              · exact fun i s vs w _ h => h
              · refine ⟨?_, ?_, ?_, ?_, ?_, ?_, ?_, ?_, ?_, ?_, ?_, ?_, ?_, ?_, ?_, ?_, ?_, ?_, ?_, ?_, ?_, ?_, ?_, ?_, ?_, ?_, ?_, ?_, ?_, ?_, trivial⟩
                · exact fun g b h => by (cases h)
                · exact fun g b h => by (cases h)
                · exact fun g b h => by (cases h)
                · exact fun g b h => by (cases h; exact ⟨by decide, fun v w h => h⟩)
                · exact fun g b h => by (cases h; exact ⟨by decide, fun v w h => h⟩)
                · exact fun g b h => by (cases h; exact ⟨by decide, fun v w h => h⟩)
                · exact fun g b h => by (cases h)
                · exact fun g b h => by (cases h)
                · exact fun g b h => by (cases h; exact ⟨by decide, fun v w h => h⟩)
                · exact fun g b h => by (cases h; exact ⟨by decide, fun v w h => h⟩)
                · exact fun g b h => by (cases h; exact ⟨by decide, fun v w h => h⟩)
                · exact fun g b h => by (cases h; exact ⟨by decide, fun v w h => h⟩)
                · exact fun g b h => by (cases h; exact ⟨by decide, fun v w h => h⟩)
                · exact fun g b h => by (cases h; exact ⟨by decide, fun v w h => h⟩)
                · exact fun g b h => by (cases h; exact ⟨by decide, fun v w h => h⟩)
                · exact fun g b h => by (cases h; exact ⟨by decide, fun v w h => h⟩)
                · exact fun g b h => by (cases h; exact ⟨by decide, fun v w h => h⟩)
                · exact fun g b h => by (cases h; exact ⟨by decide, fun v w h => h⟩)
                · exact fun g b h => by (cases h)
                · exact fun g b h => by (cases h)
                · exact fun g b h => by (cases h; exact ⟨by decide, fun v w h => h⟩)
                · exact fun g b h => by (cases h; exact ⟨by decide, fun v w h => h⟩)
                · exact fun g b h => by (cases h)
                · exact fun g b h => by (cases h)
                · exact fun g b h => by (cases h; exact ⟨by decide, fun v w h => h⟩)
                · exact fun g b h => by (cases h; exact ⟨by decide, fun v w h => h⟩)
                · exact fun g b h => by (cases h; exact ⟨by decide, fun v w h => h⟩)
                · exact fun g b h => by (cases h; exact ⟨by decide, fun v w h => h⟩)
                · exact fun g b h => by (cases h; exact ⟨by decide, fun v w h => h⟩)
                · exact fun g b h => by (cases h)
              · exact fun _ _ => keeps_refl w14
              · refine ⟨?_, ?_, ?_, ?_, ?_, ?_, ?_, ?_, ?_, ?_, ?_, ?_, ?_, ?_, ?_, ?_, ?_, ?_, ?_, ?_, ?_, ?_, ?_, ?_, ?_, ?_, ?_, ?_, ?_, ?_, trivial⟩
                · intro _ a w1 vs hI ho hn hu K hK
                  have e13 : a.tmps[13]? = some (.int .i64 0) := ho 13 rfl
                  clear hn ho hu
                  go_simp
                  exact hK _ _ (keeps_refl _) hI rfl
                · intro _ a w1 vs hI ho hn hu K hK
                  obtain ⟨e208, g208⟩ : a.tmps[208]? = some (vs 0) ∧ vs 0 = .int .i64 0 := hn 0 (by decide)
                  rw [g208] at e208
                  clear g208
                  clear hn ho hu
                  go_simp
                  exact hK _ _ (keeps_refl _) hI rfl
                · intro _ a w1 vs hI ho hn hu K hK
                  obtain ⟨e209, g209⟩ : a.tmps[209]? = some (vs 1) ∧ vs 1 = .bool false := hn 1 (by decide)
                  rw [g209] at e209
                  clear g209
                  clear hn ho hu
                  go_simp
                  exact hK _ _ (keeps_refl _) hI rfl
                · intro _ a w1 vs hI ho hn hu K hK
                  have e12 : a.tmps[12]? = some (.slice (some ⟨ba, oa, none⟩) 1 qa) := ho 12 rfl
                  clear hn ho hu
                  go_simp
                  exact hK _ _ (keeps_refl _) hI rfl
                · intro _ a w1 vs hI ho hn hu K hK
                  obtain ⟨e211, g211⟩ : a.tmps[211]? = some (vs 3) ∧ vs 3 = .slice (some ⟨ba, oa, none⟩) 1 qa := hn 3 (by decide)
                  rw [g211] at e211
                  clear g211
                  clear hn ho hu
                  go_simp
                  exact hK _ _ (keeps_refl _) hI rfl
                · intro _ a w1 vs hI ho hn hu K hK
                  obtain ⟨e212, g212⟩ : a.tmps[212]? = some (vs 4) ∧ vs 4 = .int .i64 1 := hn 4 (by decide)
                  rw [g212] at e212
                  clear g212
                  clear hn ho hu
                  go_simp
                  exact hK _ _ (keeps_refl _) hI rfl
                · intro _ a w1 vs hI ho hn hu K hK
                  obtain ⟨e210, g210⟩ : a.tmps[210]? = some (vs 2) ∧ vs 2 = .bool false := hn 2 (by decide)
                  rw [g210] at e210
                  clear g210
                  obtain ⟨e213, g213⟩ : a.tmps[213]? = some (vs 5) ∧ vs 5 = .bool false := hn 5 (by decide)
                  rw [g213] at e213
                  clear g213
                  clear hn ho hu
                  go_simp
                  exact hK _ _ (keeps_refl _) hI rfl
                · intro _ a w1 vs hI ho hn hu K hK
                  obtain ⟨e214, g214⟩ : a.tmps[214]? = some (vs 6) ∧ vs 6 = .bool false := hn 6 (by decide)
                  rw [g214] at e214
                  clear g214
                  clear hn ho hu
                  go_simp
                  exact hK _ _ (keeps_refl _) hI rfl
                · intro _ a w1 vs hI ho hn hu K hK
                  have e12 : a.tmps[12]? = some (.slice (some ⟨ba, oa, none⟩) 1 qa) := ho 12 rfl
                  clear hn ho hu
                  go_simp
                  exact hK _ _ (keeps_refl _) hI rfl
                · intro _ a w1 vs hI ho hn hu K hK
                  obtain ⟨e216, g216⟩ : a.tmps[216]? = some (vs 8) ∧ vs 8 = .slice (some ⟨ba, oa, none⟩) 1 qa := hn 8 (by decide)
                  rw [g216] at e216
                  clear g216
                  clear hn ho hu
                  go_simp
                  exact hK _ _ (keeps_refl _) hI rfl
                · intro _ a w1 vs hI ho hn hu K hK
                  obtain ⟨e217, g217⟩ : a.tmps[217]? = some (vs 9) ∧ vs 9 = .pointer (some ⟨ba, oa, none⟩) := hn 9 (by decide)
                  rw [g217] at e217
                  clear g217
                  clear hn ho hu
                  go_simp
                  exact hK _ _ (keeps_refl _) hI rfl
                · intro _ a w1 vs hI ho hn hu K hK
                  obtain ⟨e218, g218⟩ : a.tmps[218]? = some (vs 10) ∧ vs 10 = .pointer (some ⟨ba, oa, none⟩) := hn 10 (by decide)
                  rw [g218] at e218
                  clear g218
                  clear hn ho hu
                  have c0 := keeps_cell hI A0.out
                  go_simp
                  exact hK _ _ (keeps_refl _) hI rfl
                · intro _ a w1 vs hI ho hn hu K hK
                  have e3 : a.tmps[3]? = some (.slice (some ⟨b, o, none⟩) gs.length q2) := ho 3 rfl
                  clear hn ho hu
                  go_simp
                  exact hK _ _ (keeps_refl _) hI rfl
                · intro _ a w1 vs hI ho hn hu K hK
                  have e6 : a.tmps[6]? = some (.int .i64 (k : Int)) := ho 6 rfl
                  clear hn ho hu
                  go_simp
                  exact hK _ _ (keeps_refl _) hI rfl
                · intro _ a w1 vs hI ho hn hu K hK
                  obtain ⟨e220, g220⟩ : a.tmps[220]? = some (vs 12) ∧ vs 12 = .slice (some ⟨b, o, none⟩) gs.length q2 := hn 12 (by decide)
                  rw [g220] at e220
                  clear g220
                  obtain ⟨e221, g221⟩ : a.tmps[221]? = some (vs 13) ∧ vs 13 = .int .i64 (k : Int) := hn 13 (by decide)
                  rw [g221] at e221
                  clear g221
                  clear hn ho hu
                  go_simp
                  exact hK _ _ (keeps_refl _) hI rfl
                · intro _ a w1 vs hI ho hn hu K hK
                  obtain ⟨e222, g222⟩ : a.tmps[222]? = some (vs 14) ∧ vs 14 = .pointer (some ⟨b, o + k * 4, none⟩) := hn 14 (by decide)
                  rw [g222] at e222
                  clear g222
                  clear hn ho hu
                  go_simp
                  exact hK _ _ (keeps_refl _) hI rfl
                · intro _ a w1 vs hI ho hn hu K hK
                  obtain ⟨e223, g223⟩ : a.tmps[223]? = some (vs 15) ∧ vs 15 = .pointer (some ⟨b, o + k * 4, none⟩) := hn 15 (by decide)
                  rw [g223] at e223
                  clear g223
                  clear hn ho hu
                  have c0 := keeps_cell hI Z0.out
                  go_simp
                  exact hK _ _ (keeps_refl _) hI rfl
                · intro _ a w1 vs hI ho hn hu K hK
                  obtain ⟨e219, g219⟩ : a.tmps[219]? = some (vs 11) ∧ vs 11 = .string B := hn 11 (by decide)
                  rw [g219] at e219
                  clear g219
                  obtain ⟨e224, g224⟩ : a.tmps[224]? = some (vs 16) ∧ vs 16 = .string B := hn 16 (by decide)
                  rw [g224] at e224
                  clear g224
                  clear hn ho hu
                  go_simp
                  exact hK _ _ (keeps_refl _) hI rfl
                · intro _ a w1 vs hI ho hn hu K hK
                  obtain ⟨e215, g215⟩ : a.tmps[215]? = some (vs 7) ∧ vs 7 = .bool false := hn 7 (by decide)
                  rw [g215] at e215
                  clear g215
                  obtain ⟨e225, g225⟩ : a.tmps[225]? = some (vs 17) ∧ vs 17 = .bool false := hn 17 (by decide)
                  rw [g225] at e225
                  clear g225
                  clear hn ho hu
                  go_simp
                  exact hK _ _ (keeps_refl _) hI rfl
                · intro _ a w1 vs hI ho hn hu K hK
                  obtain ⟨e226, g226⟩ : a.tmps[226]? = some (vs 18) ∧ vs 18 = .bool false := hn 18 (by decide)
                  rw [g226] at e226
                  clear g226
                  clear hn ho hu
                  go_simp
                  exact hK _ _ (keeps_refl _) hI rfl
                · intro _ a w1 vs hI ho hn hu K hK
                  have e16 : a.tmps[16]? = some (.int .i64 0) := ho 16 rfl
                  clear hn ho hu
                  go_simp
                  exact hK _ _ (keeps_refl _) hI rfl
                · intro _ a w1 vs hI ho hn hu K hK
                  obtain ⟨e228, g228⟩ : a.tmps[228]? = some (vs 20) ∧ vs 20 = .int .i64 0 := hn 20 (by decide)
                  rw [g228] at e228
                  clear g228
                  clear hn ho hu
                  go_simp
                  exact hK _ _ (keeps_refl _) hI rfl
                · intro _ a w1 vs hI ho hn hu K hK
                  obtain ⟨e227, g227⟩ : a.tmps[227]? = some (vs 19) ∧ vs 19 = .bool false := hn 19 (by decide)
                  rw [g227] at e227
                  clear g227
                  obtain ⟨e229, g229⟩ : a.tmps[229]? = some (vs 21) ∧ vs 21 = .bool false := hn 21 (by decide)
                  rw [g229] at e229
                  clear g229
                  clear hn ho hu
                  go_simp
                  exact hK _ _ (keeps_refl _) hI rfl
                · intro _ a w1 vs hI ho hn hu K hK
                  obtain ⟨e230, g230⟩ : a.tmps[230]? = some (vs 22) ∧ vs 22 = .bool false := hn 22 (by decide)
                  rw [g230] at e230
                  clear g230
                  clear hn ho hu
                  go_simp
                  exact hK _ _ (keeps_refl _) hI rfl
                · intro _ a w1 vs hI ho hn hu K hK
                  have e14 : a.tmps[14]? = some (.slice pt g.length qt) := ho 14 rfl
                  clear hn ho hu
                  go_simp
                  exact hK _ _ (keeps_refl _) hI rfl
                · intro _ a w1 vs hI ho hn hu K hK
                  obtain ⟨e232, g232⟩ : a.tmps[232]? = some (vs 24) ∧ vs 24 = .slice pt g.length qt := hn 24 (by decide)
                  rw [g232] at e232
                  clear g232
                  clear hn ho hu
                  go_simp
                  exact hK _ _ (keeps_refl _) hI rfl
                · intro _ a w1 vs hI ho hn hu K hK
                  have e8 : a.tmps[8]? = some (.slice (some ⟨b3, o3, none⟩) g.length q3) := ho 8 rfl
                  clear hn ho hu
                  go_simp
                  exact hK _ _ (keeps_refl _) hI rfl
                · intro _ a w1 vs hI ho hn hu K hK
                  obtain ⟨e234, g234⟩ : a.tmps[234]? = some (vs 26) ∧ vs 26 = .slice (some ⟨b3, o3, none⟩) g.length q3 := hn 26 (by decide)
                  rw [g234] at e234
                  clear g234
                  clear hn ho hu
                  go_simp
                  exact hK _ _ (keeps_refl _) hI rfl
                · intro _ a w1 vs hI ho hn hu K hK
                  obtain ⟨e233, g233⟩ : a.tmps[233]? = some (vs 25) ∧ vs 25 = .int .i64 (g.length : Int) := hn 25 (by decide)
                  rw [g233] at e233
                  clear g233
                  obtain ⟨e235, g235⟩ : a.tmps[235]? = some (vs 27) ∧ vs 27 = .int .i64 (g.length : Int) := hn 27 (by decide)
                  rw [g235] at e235
                  clear g235
                  clear hn ho hu
                  go_simp
                  exact hK _ _ (keeps_refl _) hI rfl
                · intro _ a w1 vs hI ho hn hu K hK
                  obtain ⟨e231, g231⟩ : a.tmps[231]? = some (vs 23) ∧ vs 23 = .bool false := hn 23 (by decide)
                  rw [g231] at e231
                  clear g231
                  obtain ⟨e236, g236⟩ : a.tmps[236]? = some (vs 28) ∧ vs 28 = .bool false := hn 28 (by decide)
                  rw [g236] at e236
                  clear g236
                  clear hn ho hu
                  go_simp
                  exact hK _ _ (keeps_refl _) hI rfl
              · intro vs wE hI hG
                have eL29 : vs 29 = .bool false := hG 29 (by decide)
                have HKE := Lib.hid hI
                clear hG hI
                simp only [setAll, Nat.zero_add, Nat.reduceAdd, List.setIfInBounds_toArray, List.set_cons_zero, List.set_cons_succ, eL29]
                clear eL29
                generalize vs 0 = y0 at *
                generalize vs 1 = y1 at *
                generalize vs 2 = y2 at *
                generalize vs 3 = y3 at *
                generalize vs 4 = y4 at *
                generalize vs 5 = y5 at *
                generalize vs 6 = y6 at *
                generalize vs 7 = y7 at *
                generalize vs 8 = y8 at *
                generalize vs 9 = y9 at *
                generalize vs 10 = y10 at *
                generalize vs 11 = y11 at *
                generalize vs 12 = y12 at *
                generalize vs 13 = y13 at *
                generalize vs 14 = y14 at *
                generalize vs 15 = y15 at *
                generalize vs 16 = y16 at *
                generalize vs 17 = y17 at *
                generalize vs 18 = y18 at *
                generalize vs 19 = y19 at *
                generalize vs 20 = y20 at *
                generalize vs 21 = y21 at *
                generalize vs 22 = y22 at *
                generalize vs 23 = y23 at *
                generalize vs 24 = y24 at *
                generalize vs 25 = y25 at *
                generalize vs 26 = y26 at *
                generalize vs 27 = y27 at *
                generalize vs 28 = y28 at *
                have HK15 := Lib.hid (HK14.out.trans HKE.out)
                have HO15 := Lib.hid (OwnSeq.chg (T := fun _ => False) HO14.out (Kept.any HKE.out) (fun _ _ x => x) fun _ _ _ x => x)
                clear HK14 HO14 HKE A0 Z0
                go_wp2_with fail
                exact ⟨⟨k + 1, by omega, by go_num, HO15, HK15⟩, by simp [intOf]; omega⟩
    · as_aux_lemma =>
      obtain rfl : k = gs.length := by omega
      have hfl := firsts_length (l := l) (k := l.length)
      have HAA : Hid (TextsAt wr.heap u5 (firsts l l.length)) := by
        have h := hA.out
        rw [List.take_length, HGF.out] at h
        exact SeqIn.at_ (h.seq (by omega))
      obtain ⟨wz, hwz⟩ : ∃ wz : World, wz = wr := ⟨_, rfl⟩
      rw [← hwz] at hK HAA ⊢
      clear hwz hA
      have HKZ := Lib.hid (HK2.out.trans hK.out)
      have HZ := Lib.hid (SeqAt.keeps H2.out hK.out)
      obtain ⟨pr, qr, rfl⟩ := seq_shape HAA.out
      clear hK HK2 H2 HR HGD HGA HGF HGL hgsl
      generalize hLn : (firsts l l.length).length = L at *
      have HLN := Lib.hid hLn
      clear hLn
      go_wp2_with fail
      go_loopw [17, 18] (fun t i wr => ∃ k : Nat, k ≤ l.length ∧ i = .int .i64 k ∧ t = .int .i64 ((firsts l k).length : Int) ∧ Hid (Keeps wz wr)) (fun _ i _ => l.length - (intOf i).toNat)
      case atStart => exact ⟨0, by omega, rfl, rfl, keeps_refl wz⟩
      case round =>
        obtain ⟨k, hk, rfl, rfl, hK⟩ := hrel
        by_cases hlt : k < l.length
        · obtain ⟨wq, rfl⟩ : ∃ wq : World, wq = wr := ⟨_, rfl⟩
          have hlt64 : (k : Int) < (l.length : Int) := by omega
          have hk0 : (0 : Int) ≤ (k : Int) := by omega
          obtain ⟨b2, o2, q2, u, e5, d1, r1⟩ := seq_cell (SeqAt.keeps HZ.out hK.out) hlt
          injection e5 with e6 e7 e8
          subst e6 e8
          unfold IsText at r1
          subst r1
          rw [← atP_get hlt] at d1
          have HFS := Lib.hid (firsts_succ l k)
          have HFA := Lib.hid (fun h => firsts_at (l := l) hlt h)
          have HCX : Hid (∀ wx, Keeps wq wx → wx.cell? ⟨b2, o2 + k, none⟩ = some (.string (atP l k))) := fun wx hx => keeps_cell hx d1
          clear e7
          generalize hc : atP l k = c at *
          have HC := Lib.hid hc
          clear hc
          go_wp2_with fail
          go_loopw [19, 20] (fun f j wy => ∃ m : Nat, m ≤ k ∧ j = .int .i64 m ∧ f = .bool (hasT (l.take m) c) ∧ Hid (Keeps wq wy)) (fun _ j _ => k - (intOf j).toNat)
          case atStart => exact ⟨0, by omega, rfl, rfl, keeps_refl wq⟩
          case round =>
            obtain ⟨mm, hm, rfl, rfl, hM⟩ := hrel
            by_cases hmk : mm < k
            · have hm64 : (mm : Int) < (k : Int) := by omega
              have hm0 : (0 : Int) ≤ (mm : Int) := by omega
              have hml : mm < l.length := by omega
              have hml64 : (mm : Int) < (l.length : Int) := by omega
              obtain ⟨u, d3, r3⟩ := seq_at (SeqAt.keeps (SeqAt.keeps HZ.out hK.out) hM.out) hml
              unfold IsText at r3
              subst r3
              rw [← atP_get hml] at d3
              have d4 := HCX.out _ hM.out
              have HS1 := Lib.hid (hasT_succ hml c)
              generalize hasT (l.take mm) c = f0 at *
              generalize atP l mm = sm at *
              cases f0 with
              | true =>
                have HS2 : Hid (hasT (l.take (mm + 1)) c = true) := by show _ = _; rw [HS1.out]; rfl
                clear HS1 d3 d4
                go_wp2_with fail
                go_quiet (fail)
                go_wp2
                exact ⟨⟨mm + 1, by omega, by go_num, by rw [HS2.out], hM⟩, by simp [intOf]; omega⟩
              | false =>
                by_cases hse : sm = c
                · have HS2 : Hid (hasT (l.take (mm + 1)) c = true) := by show _ = _; rw [HS1.out, decide_eq_true hse]; rfl
                  have hq : (sm.toList == c.toList) = true := by rw [hse]; simp
                  clear HS1 hse
                  go_wp2_with fail
                  go_quiet (fail)
                  go_wp2
                  exact ⟨⟨mm + 1, by omega, by go_num, by rw [HS2.out], hM⟩, by simp [intOf]; omega⟩
                · have HS2 : Hid (hasT (l.take (mm + 1)) c = false) := by show _ = _; rw [HS1.out, decide_eq_false hse]; rfl
                  have hq : (sm.toList == c.toList) = false := by rw [txt_eq, decide_eq_false hse]
                  clear HS1 hse
                  go_wp2_with fail
                  go_quiet (fail)
                  go_wp2
                  exact ⟨⟨mm + 1, by omega, by go_num, by rw [HS2.out], hM⟩, by simp [intOf]; omega⟩
            · obtain rfl : mm = k := by omega
              cases hh : hasT (l.take mm) c with
              | true =>
                have HE : Hid (firsts l (mm + 1) = firsts l mm) := by show _ = _; rw [HFS.out, hh]; rfl
                clear hh HFS HFA
                go_wp2_with fail
                exact ⟨⟨mm + 1, by omega, by go_num, by rw [HE.out], hK.out.trans hM.out⟩, by simp [intOf]; omega⟩
              | false =>
                have HF1 : Hid (((firsts l (mm + 1)).length : Int) = ((firsts l mm).length : Int) + 1) := by show _ = _; rw [HFS.out, hh]; simp
                obtain ⟨ha1, ha2⟩ := HFA.out (by rw [hh])
                have hrl : (firsts l mm).length < (firsts l l.length).length := ha1
                obtain ⟨b3, o3, _, u, e5, k0, r0⟩ := seq_cell (SeqAt.keeps (SeqAt.keeps HAA.out hK.out) hM.out) hrl
                rw [HLN.out] at ha1
                injection e5 with e6 e7 e8
                subst e6 e8
                unfold IsText at r0
                subst r0
                have hdg : (firsts l l.length)[(firsts l mm).length] = c := (List.getElem?_eq_some_iff.1 ha2).2
                rw [hdg] at k0
                have K0 := Lib.hid k0
                have J0 := Lib.hid (HCX.out _ hM.out)
                have HZ1 : Hid (decide ((L : Int) ≤ ((firsts l mm).length : Int)) = false) := decide_eq_false (by omega)
                have HZ2 : Hid (decide (L ≤ (firsts l mm).length) = false) := decide_eq_false (by omega)
                have htl : (firsts l mm).length < 4000 := by omega
                clear hh HFS HFA ha2 e7 hdg k0 hrl
                generalize (firsts l mm).length = T at *
                go_wp2_with fail
                refine wp_region_stage [262, 263, 264, 265, 266, 267, 268, 269, 270, 271, 272, 273, 274, 275, 276] [[], [], [1], [0, 2], [3], [4], [4], [4, 5, 6], [4, 7], [4], [4], [4, 9, 10], [4, 11], [4, 8, 12], [4, 13]] [] [0, 0, 0, 0, 0, 0, 0, 0, 0, 0, 0, 0, 0, 0, 0] [] (fun i v _ => ponce42 b3 o3 L qr b2 o2 l.length q mm T c i v) (fun w w' => Keeps w w') (fun _ _ w' => Keeps wr w') (by kernel_rfl) (by kernel_rfl) (by kernel_rfl) (by kernel_rfl) (by kernel_rfl) (by kernel_rfl) (by kernel_rfl) ?_ ?_ ?_ ?_ ?_ ?_ ?_
                · exact fun i v w w' c h => h
                · exact fun w => keeps_refl w
                · exact fun i c vs w _ h => h
                · refine ⟨?_, ?_, ?_, ?_, ?_, ?_, ?_, ?_, ?_, ?_, ?_, ?_, ?_, ?_, ?_, trivial⟩
                  · exact fun g b3 h => by (cases h)
                  · exact fun g b3 h => by (cases h)
                  · exact fun g b3 h => by (cases h)
                  · exact fun g b3 h => by (cases h)
                  · exact fun g b3 h => by (cases h)
                  · exact fun g b3 h => by (cases h; exact ⟨by decide, fun v w h => h⟩)
                  · exact fun g b3 h => by (cases h; exact ⟨by decide, fun v w h => h⟩)
                  · exact fun g b3 h => by (cases h; exact ⟨by decide, fun v w h => h⟩)
                  · exact fun g b3 h => by (cases h; exact ⟨by decide, fun v w h => h⟩)
                  · exact fun g b3 h => by (cases h; exact ⟨by decide, fun v w h => h⟩)
                  · exact fun g b3 h => by (cases h; exact ⟨by decide, fun v w h => h⟩)
                  · exact fun g b3 h => by (cases h; exact ⟨by decide, fun v w h => h⟩)
                  · exact fun g b3 h => by (cases h; exact ⟨by decide, fun v w h => h⟩)
                  · exact fun g b3 h => by (cases h; exact ⟨by decide, fun v w h => h⟩)
                  · exact fun g b3 h => by (cases h)
                · exact fun _ _ => keeps_refl wr
                · refine ⟨?_, ?_, ?_, ?_, ?_, ?_, ?_, ?_, ?_, ?_, ?_, ?_, ?_, ?_, ?_, trivial⟩
                  · intro _ a w1 vs hI ho hn hu K hK
                    have e17 : a.tmps[17]? = some (.int .i64 (T : Int)) := ho 17 rfl
                    clear hn ho hu
                    go_simp
                    exact hK _ _ (keeps_refl _) hI rfl
                  · intro _ a w1 vs hI ho hn hu K hK
                    have e5 : a.tmps[5]? = some (.slice (some ⟨b3, o3, none⟩) L qr) := ho 5 rfl
                    clear hn ho hu
                    go_simp
                    exact hK _ _ (keeps_refl _) hI rfl
                  · intro _ a w1 vs hI ho hn hu K hK
                    obtain ⟨e263, g263⟩ : a.tmps[263]? = some (vs 1) ∧ vs 1 = .slice (some ⟨b3, o3, none⟩) L qr := hn 1 (by decide)
                    rw [g263] at e263
                    clear g263
                    clear hn ho hu
                    go_simp
                    exact hK _ _ (keeps_refl _) hI rfl
                  · intro _ a w1 vs hI ho hn hu K hK
                    obtain ⟨e262, g262⟩ : a.tmps[262]? = some (vs 0) ∧ vs 0 = .int .i64 (T : Int) := hn 0 (by decide)
                    rw [g262] at e262
                    clear g262
                    obtain ⟨e264, g264⟩ : a.tmps[264]? = some (vs 2) ∧ vs 2 = .int .i64 (L : Int) := hn 2 (by decide)
                    rw [g264] at e264
                    clear g264
                    clear hn ho hu
                    have z1 := HZ1.out
                    have z2 := HZ2.out
                    go_simp
                    exact hK _ _ (keeps_refl _) hI rfl
                  · intro _ a w1 vs hI ho hn hu K hK
                    obtain ⟨e265, g265⟩ : a.tmps[265]? = some (vs 3) ∧ vs 3 = .bool false := hn 3 (by decide)
                    rw [g265] at e265
                    clear g265
                    clear hn ho hu
                    go_simp
                    exact hK _ _ (keeps_refl _) hI rfl
                  · intro _ a w1 vs hI ho hn hu K hK
                    have e5 : a.tmps[5]? = some (.slice (some ⟨b3, o3, none⟩) L qr) := ho 5 rfl
                    clear hn ho hu
                    go_simp
                    exact hK _ _ (keeps_refl _) hI rfl
                  · intro _ a w1 vs hI ho hn hu K hK
                    have e17 : a.tmps[17]? = some (.int .i64 (T : Int)) := ho 17 rfl
                    clear hn ho hu
                    go_simp
                    exact hK _ _ (keeps_refl _) hI rfl
                  · intro _ a w1 vs hI ho hn hu K hK
                    obtain ⟨e267, g267⟩ : a.tmps[267]? = some (vs 5) ∧ vs 5 = .slice (some ⟨b3, o3, none⟩) L qr := hn 5 (by decide)
                    rw [g267] at e267
                    clear g267
                    obtain ⟨e268, g268⟩ : a.tmps[268]? = some (vs 6) ∧ vs 6 = .int .i64 (T : Int) := hn 6 (by decide)
                    rw [g268] at e268
                    clear g268
                    clear hn ho hu
                    go_simp
                    exact hK _ _ (keeps_refl _) hI rfl
                  · intro _ a w1 vs hI ho hn hu K hK
                    obtain ⟨e269, g269⟩ : a.tmps[269]? = some (vs 7) ∧ vs 7 = .pointer (some ⟨b3, o3 + T, none⟩) := hn 7 (by decide)
                    rw [g269] at e269
                    clear g269
                    clear hn ho hu
                    have c0 := keeps_cell hI K0.out
                    go_simp
                    exact hK _ _ (keeps_refl _) hI rfl
                  · intro _ a w1 vs hI ho hn hu K hK
                    have e0 : a.tmps[0]? = some (.slice (some ⟨b2, o2, none⟩) l.length q) := ho 0 rfl
                    clear hn ho hu
                    go_simp
                    exact hK _ _ (keeps_refl _) hI rfl
                  · intro _ a w1 vs hI ho hn hu K hK
                    have e18 : a.tmps[18]? = some (.int .i64 (mm : Int)) := ho 18 rfl
                    clear hn ho hu
                    go_simp
                    exact hK _ _ (keeps_refl _) hI rfl
                  · intro _ a w1 vs hI ho hn hu K hK
                    obtain ⟨e271, g271⟩ : a.tmps[271]? = some (vs 9) ∧ vs 9 = .slice (some ⟨b2, o2, none⟩) l.length q := hn 9 (by decide)
                    rw [g271] at e271
                    clear g271
                    obtain ⟨e272, g272⟩ : a.tmps[272]? = some (vs 10) ∧ vs 10 = .int .i64 (mm : Int) := hn 10 (by decide)
                    rw [g272] at e272
                    clear g272
                    clear hn ho hu
                    go_simp
                    exact hK _ _ (keeps_refl _) hI rfl
                  · intro _ a w1 vs hI ho hn hu K hK
                    obtain ⟨e273, g273⟩ : a.tmps[273]? = some (vs 11) ∧ vs 11 = .pointer (some ⟨b2, o2 + mm, none⟩) := hn 11 (by decide)
                    rw [g273] at e273
                    clear g273
                    clear hn ho hu
                    have c0 := keeps_cell hI J0.out
                    go_simp
                    exact hK _ _ (keeps_refl _) hI rfl
                  · intro _ a w1 vs hI ho hn hu K hK
                    obtain ⟨e270, g270⟩ : a.tmps[270]? = some (vs 8) ∧ vs 8 = .string c := hn 8 (by decide)
                    rw [g270] at e270
                    clear g270
                    obtain ⟨e274, g274⟩ : a.tmps[274]? = some (vs 12) ∧ vs 12 = .string c := hn 12 (by decide)
                    rw [g274] at e274
                    clear g274
                    clear hn ho hu
                    go_simp
                    exact hK _ _ (keeps_refl _) hI rfl
                  · intro _ a w1 vs hI ho hn hu K hK
                    obtain ⟨e266, g266⟩ : a.tmps[266]? = some (vs 4) ∧ vs 4 = .bool false := hn 4 (by decide)
                    rw [g266] at e266
                    clear g266
                    obtain ⟨e275, g275⟩ : a.tmps[275]? = some (vs 13) ∧ vs 13 = .bool false := hn 13 (by decide)
                    rw [g275] at e275
                    clear g275
                    clear hn ho hu
                    go_simp
                    exact hK _ _ (keeps_refl _) hI rfl
                · intro vs wE hI hG
                  have eL14 : vs 14 = .bool false := hG 14 (by decide)
                  have HKE := Lib.hid hI
                  clear hG hI
                  simp only [setAll, Nat.zero_add, Nat.reduceAdd, List.setIfInBounds_toArray, List.set_cons_zero, List.set_cons_succ, eL14]
                  clear eL14
                  generalize vs 0 = y0 at *
                  generalize vs 1 = y1 at *
                  generalize vs 2 = y2 at *
                  generalize vs 3 = y3 at *
                  generalize vs 4 = y4 at *
                  generalize vs 5 = y5 at *
                  generalize vs 6 = y6 at *
                  generalize vs 7 = y7 at *
                  generalize vs 8 = y8 at *
                  generalize vs 9 = y9 at *
                  generalize vs 10 = y10 at *
                  generalize vs 11 = y11 at *
                  generalize vs 12 = y12 at *
                  generalize vs 13 = y13 at *
                  go_wp2_with fail
                  exact ⟨⟨mm + 1, by omega, by go_num, by rw [HF1.out], (hK.out.trans hM.out).trans HKE.out⟩, by simp [intOf]; omega⟩
        · obtain rfl : k = l.length := by omega
          rw [HLN.out]
          go_wp2_with fail
          go_ret
          exact ⟨by simp, HKZ.out.trans hK.out⟩
end Go.Proofs.Yteandjophamipaa
