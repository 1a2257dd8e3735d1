/- The walks of pack.Make and of the document's. -/
import Derived.Test.YteandjophamipaaPackMay
import Derived.Test.YteandjophamipaaRefPMay
import Derived.Test.YteandjophamipaaPackNum
namespace Go.Proofs.Yteandjophamipaa
open Go.RowKit
theorem pmay_e (v : Value) (l : List ByteArray) (w : World) (h : TextsAt w.heap v l) (x : Bool) (e : mayP l = x) : Calls Try.prog 18 #[v] w fun e w' => e = .returned (.bool x) ∧ Keeps w w' := e ▸ pmay_any v l w h
theorem refpmay_e (v : Value) (l : List ByteArray) (w : World) (h : TextsAt w.heap v l) (x : Bool) (e : mayP l = x) : Calls Try.prog 19 #[v] w fun e w' => e = .returned (.bool x) ∧ Keeps w w' := e ▸ kept (refpmay_any v l w h)
/-- What may be a pack is not large. -/
theorem mayP_small {l : List ByteArray} (h : mayP l = true) : 1 ≤ l.length ∧ l.length ≤ 4096 ∧ total l ≤ 16384 ∧ ∀ k, k < l.length → (atP l k).size ≤ 16384 := by
  have hm : ¬ 4096 < l.length := fun x => by rw [mayP_many x] at h; cases h
  unfold mayP at h
  simp only [Bool.and_eq_true, Bool.or_eq_true, decide_eq_true_eq] at h
  obtain ⟨⟨h1, h2⟩, h3⟩ := h
  have hs : ∀ k, k < l.length → (atP l k).size ≤ 16384 := fun k hk => (chunkOk_iff.1 (chunkOk_of h2 hk)).2.1
  refine ⟨h1, by omega, ?_, hs⟩
  rcases h3 with h3 | h3
  · have h4 := total_take (l := l) (k := 0) (by omega)
    have h5 := hs 0 (by omega)
    rw [show 0 + 1 = l.length from by omega, List.take_length] at h4
    rw [h4, List.take_zero]
    simp [total]; exact h5
  · omega
theorem Bld.chg {B b : Nat} {l : List UInt8} {T : Nat → Prop} {w w' : World} (h : Bld B b l w) (c : Chg T w w') (hT : ∀ k, k < w.heap.size → T k → typH w.heap k = some 3) : Bld B b l w' := by
  have key : ∀ p, Lib.BuilderAtF 58 5 B b p (Lib.byteCells l) w → Lib.BuilderAtF 58 5 B b p (Lib.byteCells l) w' := by
    rintro p ⟨h1, v, h2, h3, h4⟩
    have hlt : b < w.heap.size := (Array.getElem?_eq_some_iff.1 h2).1
    refine ⟨h1, v, ?_, ?_, h4⟩
    · rw [c.2.2.2.2 b hlt (fun x => by have := hT b hlt x; rw [typH_of h2] at this; cases this)]; exact h2
    · obtain ⟨k1, k2⟩ := h3
      refine ⟨k1, ?_⟩
      rcases k2 with k2 | ⟨g, cap, cur, fz, e, hg, hh, r⟩
      · exact .inl k2
      · refine .inr ⟨g, cap, cur, fz, e, hg, ?_, r⟩
        have hlg : g < w.heap.size := (Array.getElem?_eq_some_iff.1 hh).1
        rw [c.2.2.2.2 g hlg (fun x => by have := hT g hlg x; rw [typH_of hh] at this; cases this)]; exact hh
  exact h.elim (fun x => .inl (key _ x)) (fun x => .inr (key _ x))
theorem Bld.typ {B b : Nat} {l : List UInt8} {w : World} (h : Bld B b l w) : typH w.heap b = some 58 := by
  rcases h with ⟨_, v, h2, _⟩ | ⟨_, v, h2, _⟩ <;> exact typH_of h2
theorem blen_e (B b : Nat) (l : List UInt8) (w : World) (h : Bld B b l w) (x : Int) (hx : (l.length : Int) = x) :
    Calls Try.prog 38 #[.pointer (some ⟨b, 0, none⟩)] w fun e w' => e = .returned (.int .i64 x) ∧ w = w' := hx ▸ blen_any B b l w h
theorem off_len (l : List ByteArray) (k : Nat) : ((headP l ++ joinP (l.take k)).length : Int) = offP l k := by
  unfold offP; rw [List.length_append, joinP_length]
theorem offs_succ (l : List ByteArray) (k : Nat) : (List.range (k + 1)).map (offP l) = (List.range k).map (offP l) ++ [offP l k] := by rw [List.range_succ, List.map_append]; rfl
theorem OwnSeq.bk {B b : Nat} {l : List Int} {v : Value} {w w' : World} (h : OwnSeq B 3 IsInt w v l) (c : BKept B b w w') (hb : typH w.heap b = some 58) : OwnSeq B 3 IsInt w' v l := by
  refine OwnSeq.chg h c.chg (fun k hk ht => ?_) fun _ _ _ x => x
  obtain ⟨us, h1, _⟩ := h
  have := (own_block h1 k hk).2.2
  rcases ht.2 with e | e
  · subst e; rw [hb] at this; cases this
  · rw [e] at this; cases this

set_option maxRecDepth 100000 in
set_option maxHeartbeats 4000000 in
theorem pmake_any (v : Value) (l : List ByteArray) (w : World) (h : TextsAt w.heap v l) : Calls Try.prog 15 #[v] w (GiveP w (makeP l)) := by
  have hmf : ∀ (fn : Fn) (first cap : Array Value) (w : World), (Instr.makeFunc fn first cap).run Try.prog w = .ok (.func fn first cap) w := fun _ _ _ _ => rfl
  obtain ⟨p, q, rfl⟩ := seq_shape h
  have H := Lib.hid h
  clear h
  cases hm : mayP l with
  | false =>
    have E : Hid (makeP l = (ByteArray.empty, [], 4)) := by show _ = _; unfold makeP; rw [hm]; rfl
    go_enter Try.func15, Try.ntmps15
    go_wp2_with fail
    refine Calls.mono (pmay_e _ l _ H.out _ hm) ?_
    rintro e w1 ⟨rfl, hk⟩
    go_wp2
    go_ret3
    rw [E.out]
    exact GiveP.err hk
  | true =>
    have E : Hid (makeP l = (strB (blobP l), offsP l, 0)) := by show _ = _; unfold makeP; rw [hm]; rfl
    obtain ⟨s1, s2, s3, s4⟩ := mayP_small hm
    have HM := Lib.hid hm
    have HS4 := Lib.hid s4
    clear hm s4
    go_enter Try.func15, Try.ntmps15
    go_wp2_with fail
    refine Calls.mono (pmay_e _ l _ H.out _ HM.out) ?_
    rintro e w1 ⟨rfl, hk⟩
    have HK := Lib.hid hk
    have hs1 := hk.size
    have H1 := Lib.hid (SeqAt.keeps H.out hk)
    clear hk
    go_wp2_with fail
    refine Calls.mono (wtext_any w1.heap.size w1.heap.size [] _ _ (Bld.new w1) (by simp [ByteArray.size]) (by simp)) ?_
    rintro e w2 ⟨rfl, hb2, k2⟩
    have k2' : Kept w1.heap.size w1 w2 := (kal w1 _).then k2.1.kept (Nat.le_refl _)
    have HB2 : Hid (Bld w1.heap.size w1.heap.size [112, 97, 107, 49] w2) := hb2
    have HK2 := Lib.hid (HK.out.call k2' (Nat.le_refl _))
    have H2 := Lib.hid (SeqAt.keeps H1.out k2')
    have hz2 := hb2.lt
    clear hb2 k2 k2'
    go_wp2_with fail
    refine Calls.mono (pnum_any w1.heap.size w1.heap.size l.length _ _ HB2.out (by simp) (by omega)) ?_
    rintro e w3 ⟨rfl, hb3, k3⟩
    have k3' : Kept w1.heap.size w2 w3 := k3.1.kept
    have HB3 : Hid (Bld w1.heap.size w1.heap.size ([112, 97, 107, 49] ++ num2 l.length ++ nums (l.take 0)) w3) := by show Bld _ _ _ _; rw [List.take_zero]; simpa [nums] using hb3
    have HK3 := Lib.hid (HK2.out.then k3' hs1)
    have hz3 := hb3.lt
    clear hb3 k3 k3'
    go_wp2_with fail
    go_loopw [22] (fun i wr => ∃ k : Nat, k ≤ l.length ∧ i = .int .i64 k ∧ Hid (Bld w1.heap.size w1.heap.size ([112, 97, 107, 49] ++ num2 l.length ++ nums (l.take k)) wr) ∧ Hid (Keeps w wr)) (fun i _ => l.length - (intOf i).toNat)
    case atStart => exact ⟨0, by omega, rfl, HB3, HK3⟩
    case round =>
      obtain ⟨k, hk, rfl, hB, hK⟩ := hrel
      by_cases hlt : k < l.length
      · have hlt64 : (k : Int) < (l.length : Int) := by omega
        have hk0 : (0 : Int) ≤ (k : Int) := by omega
        obtain ⟨b, off, c, u, e5, d1, r1⟩ := seq_cell (SeqAt.keeps H.out hK.out) hlt
        injection e5 with e6 e7 e8
        subst e6 e8
        unfold IsText at r1
        subst r1
        rw [← atP_get hlt] at d1
        have hsz := HS4.out k hlt
        have HNS : Hid (nums (l.take (k + 1)) = nums (l.take k) ++ num2 (atP l k).size) := by show _ = _; rw [take_snoc hlt, nums_snoc]
        have hzr := hB.out.lt
        have hnl : (nums (l.take k)).length ≤ 8192 := by rw [nums_length, List.length_take]; omega
        clear e7
        generalize atP l k = s at *
        go_wp2_with fail
        refine Calls.mono (pnum_any w1.heap.size w1.heap.size s.size _ _ hB.out (by simp [num2]; omega) (by omega)) ?_
        rintro e w4 ⟨rfl, hb4, k4⟩
        have HB4 : Hid (Bld w1.heap.size w1.heap.size ([112, 97, 107, 49] ++ num2 l.length ++ nums (l.take (k + 1))) w4) := by show Bld _ _ _ _; rw [HNS.out, ← List.append_assoc]; exact hb4
        have HK4 := Lib.hid (hK.out.then k4.1.kept hs1)
        clear hb4 k4
        go_wp2_with fail
        exact ⟨⟨k + 1, by omega, by go_num, HB4, HK4⟩, by simp [intOf]; omega⟩
      · obtain rfl : k = l.length := by omega
        have HB5 : Hid (Bld w1.heap.size w1.heap.size (headP l ++ joinP (l.take 0)) wr) := by
          have := hB.out
          rw [List.take_length] at this
          show Bld _ _ _ _
          rw [List.take_zero]
          simpa [headP, joinP] using this
        have HK5 := hK
        clear hB hK
        obtain ⟨w5, rfl⟩ : ∃ w5 : World, w5 = wr := ⟨_, rfl⟩
        go_wp2_with fail
        go_loopw [3, 33] (fun u i wx => ∃ k : Nat, k ≤ l.length ∧ i = .int .i64 k ∧ Hid (OwnSeq w1.heap.size 3 IsInt wx u ((List.range k).map (offP l))) ∧ Hid (Bld w1.heap.size w1.heap.size (headP l ++ joinP (l.take k)) wx) ∧ Hid (Keeps w wx)) (fun _ i _ => l.length - (intOf i).toNat)
        case atStart => exact ⟨0, by omega, rfl, OwnSeq.nil _ _ _ _, HB5, HK5⟩
        case round =>
          obtain ⟨k, hk, rfl, hO, hB, hK⟩ := hrel
          by_cases hlt : k < l.length
          · have hlt64 : (k : Int) < (l.length : Int) := by omega
            have hk0 : (0 : Int) ≤ (k : Int) := by omega
            obtain ⟨b, off, c, u, e5, d1, r1⟩ := seq_cell (SeqAt.keeps H.out hK.out) hlt
            injection e5 with e6 e7 e8
            subst e6 e8
            unfold IsText at r1
            subst r1
            rw [← atP_get hlt] at d1
            have hsz := HS4.out k hlt
            have HJS : Hid (joinP (l.take (k + 1)) = joinP (l.take k) ++ (atP l k).data.toList) := by show _ = _; rw [take_snoc hlt, joinP_snoc]
            have hzr := hB.out.lt
            have hjl : (headP l ++ joinP (l.take k)).length ≤ 100000 := by
              rw [List.length_append, headP_length, joinP_length]
              have := total_le l k
              omega
            have HOL := Lib.hid (off_len l k)
            have HOS := Lib.hid (offs_succ l k)
            have hb1 := cell_lt d1
            clear e7
            generalize atP l k = s at *
            generalize offP l k = x at *
            obtain ⟨us, hu1, hu2, hu3⟩ := hO.out
            have hul : us.length = k := by rw [hu2]; simp
            have HU := Lib.hid hu1
            have HL2 := Lib.hid hu2
            have HL3 := Lib.hid hul
            have H3 := Lib.hid hu3
            clear hu1 hu2 hul hu3
            go_wp2_with fail
            refine Calls.mono (blen_e w1.heap.size w1.heap.size _ _ hB.out x HOL.out) ?_
            rintro e w' ⟨rfl, rfl⟩
            go_wp2_with (at_builtin; refine wp_app1 elInt rfl _ _ rfl w1.heap.size u3 us rfl (HU.out.alloc _) _ (.int .i64 x) rfl ?c1 rfl ?c2 ?c3 ?_)
            case c1 => exact World.cell?_alloc_new _ _ _ _
            case c2 => have := HL3.out; omega
            case c3 => simp; omega
            intro v' w6 hown hchg
            have hpush : Hid (OwnSeq w1.heap.size 3 IsInt w6 v' (((List.range k).map (offP l)) ++ [x])) := OwnSeq.push (R := IsInt) HL2.out H3.out hown (fun _ _ _ x => x) rfl
            have hc6 : Chg (fun b => u3.ownBlock = some b) wr w6 := ((Chg.refl _ wr).alloc _).trans hchg
            have HB6 : Hid (Bld w1.heap.size w1.heap.size (headP l ++ joinP (l.take k)) w6) := hB.out.chg hc6 fun b _ hb => (own_block HU.out b hb).2.2
            have HK6 : Hid (Keeps w w6) := hK.out.then (Chg.kept (hc6.mono (T' := fun b => w1.heap.size ≤ b) fun b _ hb => (own_block HU.out b hb).1) (Nat.le_of_lt hzr)) hs1
            have hz6 := HB6.out.lt
            clear hown hchg hc6
            go_wp2_with fail
            refine Calls.mono (wtext_any w1.heap.size w1.heap.size _ s _ HB6.out (by omega) (by omega)) ?_
            rintro e w7 ⟨rfl, hb7, k7⟩
            have HB7 : Hid (Bld w1.heap.size w1.heap.size (headP l ++ joinP (l.take (k + 1))) w7) := by show Bld _ _ _ _; rw [HJS.out, ← List.append_assoc]; exact hb7
            have HO7 : Hid (OwnSeq w1.heap.size 3 IsInt w7 v' ((List.range (k + 1)).map (offP l))) := by show OwnSeq _ _ _ _ _ _; rw [HOS.out]; exact hpush.out.bk k7 HB6.out.typ
            have HK7 := Lib.hid (HK6.out.then k7.1.kept hs1)
            clear hb7 k7
            go_wp2_with fail
            exact ⟨⟨k + 1, by omega, by go_num, HO7, HB7, HK7⟩, by simp [intOf]; omega⟩
          · obtain rfl : k = l.length := by omega
            have hzr := hB.out.lt
            go_wp2_with fail
            refine Calls.mono (btext_any w1.heap.size w1.heap.size _ _ hB.out (by omega)) ?_
            rintro e w8 ⟨rfl, hb8, k8⟩
            have HO8 := Lib.hid (hO.out.bk k8 hB.out.typ)
            have HK8 := Lib.hid (hK.out.then k8.1.kept hs1)
            have HBL : Hid (strB (headP l ++ joinP (l.take l.length)) = strB (blobP l)) := by show _ = _; rw [List.take_length]; rfl
            rw [HBL.out]
            clear hb8 k8
            go_wp2
            go_ret3
            rw [E.out]
            exact ⟨_, rfl, SeqIn.mono (HO8.out.seq (by simp; omega)) (fun b hb => Nat.le_trans hs1 hb) fun _ _ x => x, HK8.out⟩
end Go.Proofs.Yteandjophamipaa
