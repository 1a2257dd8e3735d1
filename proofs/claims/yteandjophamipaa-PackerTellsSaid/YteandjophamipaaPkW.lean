/- The walks of pack.May and of the document's. -/
import Derived.Test.YteandjophamipaaPkM
import Derived.Maps.OwnOps
import Derived.Maps.Views
import Derived.StringKeys
import Derived.Test.YteandjophamipaaBuild
namespace Go.Proofs.Yteandjophamipaa
open Go.RowKit Go.Maps
theorem lawK : Keyed Try.prog 9 := string_keyed Try.underlying9
theorem zeroI (w : World) : (zeroValue 3).run Try.prog w = .ok (.int .i64 0) w := by kernel_rfl
/-- A text as a map's key. -/
def keyT (s : ByteArray) : Lit := .string s.data.toList
theorem key_of (s : ByteArray) (h : s.size ≤ maxLen) : keyOf Try.prog 9 (.string s) = some (keyT s) := Go.WideMaps.keyOf_string_mk Try.underlying9 h
theorem keyT_inj {a b : ByteArray} (h : keyT a = keyT b) : a = b := by
  unfold keyT at h
  injection h with h
  rw [← strB_data a, ← strB_data b, h]
def numD (c : Nat) : DataW Unit := .lit (.int .i64 (c : Int))
theorem numD_inj {c : Nat} {c' : Int} (h : numD c = DataW.lit (Lit.int .i64 c')) : c' = (c : Int) := by
  have := congrArg (fun d : DataW Unit => match d with | DataW.lit (Lit.int _ n) => n | _ => 0) h
  exact this.symm
/-- Block B is a map that counts how often each text was met. -/
def Met (B : Nat) (w : World) (l : List ByteArray) : Prop :=
  ∃ D : DataW Unit, w.ownsMap Try.prog 9 (plainElem Try.prog 3) B l.length D ∧ ∀ s : ByteArray, ∃ c : Nat, D.atKey (keyT s) (.lit (.int .i64 0)) = numD c ∧ c ≤ l.length ∧ (0 < c ↔ s ∈ l)
theorem Met.new (w : World) : Met w.heap.size (w.alloc (.map #[] 0)) [] :=
  ⟨.map [], World.ownsMap_made _ _ _ _, fun s => ⟨0, rfl, Nat.le_refl _, by simp⟩⟩
theorem Met.chg {B : Nat} {w w' : World} {l : List ByteArray} (h : Met B w l) (k : Chg (fun b => b ≠ B) w w') : Met B w' l := by
  obtain ⟨D, hD, hc⟩ := h
  have hlt := hD.lt
  obtain ⟨es, clock, hb, F⟩ := hD
  refine ⟨D, ⟨es, clock, ?_, F⟩, hc⟩
  rw [k.2.2.2.2 B hlt (fun x => x rfl)]; exact hb
/-- What was met of a text. -/
theorem Met.at_ {B : Nat} {w : World} {l : List ByteArray} (h : Met B w l) (s : ByteArray) (hs : s.size ≤ maxLen) :
    ∃ (c : Nat) (D : DataW Unit), (Instr.lookup 68 (.map (some B)) (.string s) false).run Try.prog w = .ok (.int .i64 (c : Int)) w ∧ c ≤ l.length ∧ (0 < c ↔ s ∈ l) ∧
      w.ownsMap Try.prog 9 (plainElem Try.prog 3) B l.length D ∧ ∀ w', w'.ownsMap Try.prog 9 (plainElem Try.prog 3) B (l.length + 1) (D.put (keyT s) (numD (c + 1))) → Met B w' (l ++ [s]) := by
  obtain ⟨D, hD, hc⟩ := h
  obtain ⟨c, h1, h2, h3⟩ := hc s
  obtain ⟨c', hrun, hat, _⟩ := hD.lookup_int lawK Try.underlying68 Try.underlying3 (zeroI _) (key_of s hs)
  have e : c' = (c : Int) := by
    exact numD_inj (h1.symm.trans hat)
  subst e
  have hM : IsMap D := by obtain ⟨es, clock, hb, F, _, hd⟩ := hD; exact ⟨_, hd⟩
  refine ⟨c, D, hrun, h2, h3, hD, fun w' h' => ⟨D.put (keyT s) (numD (c + 1)), by rw [List.length_append]; exact h', fun t => ?_⟩⟩
  by_cases e : t = s
  · subst e
    refine ⟨c + 1, atKey_put_same hM (by unfold keyT; trivial) _ _, by rw [List.length_append]; simp; omega, by simp⟩
  · obtain ⟨ct, k1, k2, k3⟩ := hc t
    refine ⟨ct, (atKey_put_other (fun x => e (keyT_inj x)) _ _).trans k1, by rw [List.length_append]; omega, ?_⟩
    rw [k3, List.mem_append, List.mem_singleton]
    exact ⟨fun h => .inl h, fun h => h.elim id (fun x => absurd x e)⟩
theorem chg_map {w w' : World} {B : Nat} (h : w.grownBy w' (some B)) : Chg (fun b => b = B) w w' := (Chg.refl _ w).grown h fun k hk _ => by cases hk; rfl

set_option maxRecDepth 100000 in
set_option maxHeartbeats 4000000 in
theorem pmay_any (v : Value) (l : List ByteArray) (w : World) (h : TextsAt w.heap v l) : Calls Try.prog 18 #[v] w fun e w' => e = .returned (.bool (mayP l)) ∧ Keeps w w' := by
  obtain ⟨p, q, rfl⟩ := seq_shape h
  have hl63 : l.length ≤ 9223372036854775807 := let ⟨_, _, _, x, _⟩ := h; x
  have H := Lib.hid h
  have hmm := @run_makeMap Try.prog
  clear h
  go_enter Try.func18, Try.ntmps18
  go_wp2
  clear hmm
  go_loopw [3, 10] (fun t i wr => ∃ k : Nat, k ≤ l.length ∧ i = .int .i64 k ∧ t = .int .i64 (total (l.take k) : Int) ∧ Hid (chunksOk l k = true) ∧ total (l.take k) ≤ 20480 ∧ Hid (Met w.heap.size wr (l.take k)) ∧ Hid (Keeps w wr)) (fun _ i _ => l.length - (intOf i).toNat)
  case atStart => exact ⟨0, by omega, rfl, rfl, rfl, by simp [total], Met.new w, kal w _⟩
  case round =>
    obtain ⟨k, hk, rfl, rfl, hO, hT, hM, hK⟩ := hrel
    by_cases hlt : k < l.length
    · have hlt64 : (k : Int) < (l.length : Int) := by omega
      have hk0 : (0 : Int) ≤ (k : Int) := by omega
      obtain ⟨b, off, c, u, e5, d1, r1⟩ := seq_cell (SeqAt.keeps H.out hK.out) hlt
      injection e5 with e6 e7 e8
      subst e6 e8
      unfold IsText at r1
      subst r1
      rw [← atP_get hlt] at d1
      have HC := Lib.hid (@mayP_chunk l k hlt)
      have HTT := Lib.hid (@mayP_total l k hlt)
      have HI := Lib.hid (@chunkOk_iff l k)
      have HS := Lib.hid (take_snoc hlt)
      have HTS := Lib.hid (total_take hlt)
      have HOS := Lib.hid (chunksOk_succ l k)
      have hkt : (l.take k).length = k := by rw [List.length_take]; omega
      have HKT := Lib.hid hkt
      clear hkt e7
      generalize atP l k = s at *
      generalize total (l.take k) = t at *
      by_cases h1 : 1 ≤ s.size ∧ s.size ≤ 16384
      · obtain ⟨h1, h2⟩ := h1
        obtain ⟨c, D, hrun, c1, c2, hown, hstep⟩ := hM.out.at_ s (by unfold maxLen; omega)
        rw [HKT.out] at c1 hown hstep
        have HOW := Lib.hid hown
        have HST := Lib.hid hstep
        have g1 : decide (s.size < 1) = false := decide_eq_false (by omega)
        have g2 : decide ((s.size : Int) < 1) = false := decide_eq_false (by omega)
        have g3 : decide ((16384 : Int) < (s.size : Int)) = false := decide_eq_false (by omega)
        have g4 : decide (16384 < s.size) = false := decide_eq_false (by omega)
        clear hown hstep
        by_cases h3 : 0 < c
        · have g5 : decide (0 < c) = true := decide_eq_true h3
          have g6 : decide ((0 : Int) < (c : Int)) = true := decide_eq_true (by omega)
          have HR : Hid (mayP l = false) := HC.out (by
            cases hx : chunkOk l k with
            | false => rfl
            | true => exact absurd (c2.1 h3) (HI.out.1 hx).2.2)
          clear c2
          go_wp2
          go_ret
          exact ⟨by rw [HR.out] <;> rfl, hK.out⟩
        · have g5 : decide (0 < c) = false := decide_eq_false h3
          have g6 : decide ((0 : Int) < (c : Int)) = false := decide_eq_false (by omega)
          have hc0 : c = 0 := by omega
          by_cases h4 : 4096 < t
          · have g7 : decide (4096 < t) = true := decide_eq_true h4
            have g8 : decide ((4096 : Int) < (t : Int)) = true := decide_eq_true (by omega)
            have HR : Hid (mayP l = false) := HTT.out h4
            clear c2 hc0
            go_wp2
            go_ret
            exact ⟨by rw [HR.out] <;> rfl, hK.out⟩
          · have g7 : decide (4096 < t) = false := decide_eq_false h4
            have g8 : decide ((4096 : Int) < (t : Int)) = false := decide_eq_false (by omega)
            have HON : Hid (chunksOk l (k + 1) = true) := by
              show _ = _
              rw [HOS.out, hO.out, HI.out.2 ⟨h1, h2, fun x => h3 (c2.2 x)⟩]; rfl
            have hwf : (Lit.int .i64 ((c : Int) + 1)).wf = true := by subst hc0; decide
            have hkey := key_of s (by unfold maxLen; omega)
            clear c2 hc0
            go_wp2_with (at_mapUpdate; refine wpList_mapUpdate_own _ rfl _ _ _ 68 rfl 9 3 lawK Try.underlying68 _ w.heap.size k D rfl HOW.out ?c1 _ _ _ rfl rfl hkey (numD (c + 1)) [] ?c2 ?_)
            case c1 => unfold maxLen; omega
            case c2 => exact plainElem_int Try.underlying3 hwf
            intro w1 hown1 hgrow1
            have HM1 : Hid (Met w.heap.size w1 (l.take (k + 1))) := by show Met _ _ _; rw [HS.out]; exact HST.out _ hown1
            have HK1 : Hid (Keeps w w1) := (hK.out.chg.trans ((chg_map hgrow1).mono fun b _ h => by rw [h]; exact Nat.le_refl _)).keeps fun b hb h => by omega
            clear hown1 hgrow1 hrun
            go_wp2
            exact ⟨⟨k + 1, by omega, by go_num, by rw [HTS.out]; go_num, HON, by rw [HTS.out]; omega, HM1, HK1⟩, by simp [intOf]; omega⟩
      · have HR : Hid (mayP l = false) := HC.out (by
          cases hx : chunkOk l k with
          | false => rfl
          | true => exact absurd ⟨(HI.out.1 hx).1, (HI.out.1 hx).2.1⟩ h1)
        by_cases h2 : s.size < 1
        · have g1 : decide (s.size < 1) = true := decide_eq_true (by omega)
          have g2 : decide ((s.size : Int) < 1) = true := decide_eq_true (by omega)
          clear h1
          go_wp2
          go_ret
          exact ⟨by rw [HR.out] <;> rfl, hK.out⟩
        · have g1 : decide (s.size < 1) = false := decide_eq_false (by omega)
          have g2 : decide ((s.size : Int) < 1) = false := decide_eq_false (by omega)
          have g3 : decide ((16384 : Int) < (s.size : Int)) = true := decide_eq_true (by omega)
          have g4 : decide (16384 < s.size) = true := decide_eq_true (by omega)
          clear h1
          go_wp2
          go_ret
          exact ⟨by rw [HR.out] <;> rfl, hK.out⟩
    · obtain rfl : k = l.length := by omega
      have HO := hO
      rw [List.take_length] at hT ⊢
      by_cases h0 : l.length = 0
      · have e0 : l = [] := List.length_eq_zero_iff.1 h0
        subst e0
        go_wp2
        go_ret
        exact ⟨rfl, hK.out⟩
      · have HR := Lib.hid (mayP_all HO.out (by omega))
        have hn : ¬ ((l.length : Int) < 1) := by omega
        by_cases h1 : l.length = 1
        · have g1 : ((l.length : Int) == 1) = true := by rw [beq_iff_eq]; omega
          have HE : Hid (mayP l = true) := by show _ = _; rw [HR.out, decide_eq_true h1]; rfl
          clear h0 h1
          go_wp2
          go_ret
          exact ⟨by rw [HE.out] <;> rfl, hK.out⟩
        · have g1 : ((l.length : Int) == 1) = false := beq_eq_false_iff_ne.2 (by omega)
          have g2 : decide ((1 : Int) < (l.length : Int)) = true := decide_eq_true (by omega)
          have g3 : decide (1 < l.length) = true := decide_eq_true (by omega)
          have HE : Hid (mayP l = decide (total l ≤ 4096)) := by show _ = _; rw [HR.out, decide_eq_false h1]; rfl
          generalize total l = t at *
          by_cases h2 : t ≤ 4096
          · have g4 : decide ((t : Int) ≤ 4096) = true := decide_eq_true (by omega)
            have g5 : decide (t ≤ 4096) = true := decide_eq_true h2
            clear h0 h1
            go_wp2
            go_ret
            exact ⟨by rw [HE.out, g5] <;> rfl, hK.out⟩
          · have g4 : decide ((t : Int) ≤ 4096) = false := decide_eq_false (by omega)
            have g5 : decide (t ≤ 4096) = false := decide_eq_false h2
            clear h0 h1
            go_wp2
            go_ret
            exact ⟨by rw [HE.out, g5] <;> rfl, hK.out⟩
end Go.Proofs.Yteandjophamipaa
/- The walk of the document's test on packs. -/
namespace Go.Proofs.Yteandjophamipaa
open Go.RowKit
set_option maxRecDepth 100000 in
set_option maxHeartbeats 4000000 in
theorem refpmay_any (v : Value) (l : List ByteArray) (w : World) (h : TextsAt w.heap v l) : Calls Try.prog 19 #[v] w fun e w' => e = .returned (.bool (mayP l)) ∧ ∃ n, w' = w.drewN n := by
  obtain ⟨p, q, rfl⟩ := seq_shape h
  have hl63 : l.length ≤ 9223372036854775807 := let ⟨_, _, _, x, _⟩ := h; x
  by_cases h0 : l.length < 1
  · have e0 : l = [] := List.length_eq_zero_iff.1 (by omega)
    subst e0
    go_enter Try.func19, Try.ntmps19
    go_wp2
    go_ret
    exact ⟨rfl, 0, rfl⟩
  · by_cases h9 : 4096 < l.length
    · have HR := Lib.hid (mayP_many h9)
      have g1 : decide ((l.length : Int) < 1) = false := decide_eq_false (by omega)
      have g2 : decide ((4096 : Int) < (l.length : Int)) = true := decide_eq_true (by omega)
      have g3 : decide (4096 < l.length) = true := decide_eq_true h9
      have g4 : decide (l.length < 1) = false := decide_eq_false h0
      clear h h9 h0
      go_enter Try.func19, Try.ntmps19
      go_wp2
      go_ret
      exact ⟨by rw [HR.out] <;> rfl, 0, rfl⟩
    · obtain ⟨b0, o0, c0, _, e0, _, _⟩ := seq_cell h (i := 0) (by omega)
      injection e0 with e1 _ e2
      subst e1 e2
      have H := Lib.hid h
      have g1 : decide ((l.length : Int) < 1) = false := decide_eq_false (by omega)
      have g2 : decide ((4096 : Int) < (l.length : Int)) = false := decide_eq_false (by omega)
      have g3 : decide (4096 < l.length) = false := decide_eq_false h9
      have g4 : decide (l.length < 1) = false := decide_eq_false h0
      clear h
      go_enter Try.func19, Try.ntmps19
      go_wp2
      clear g1 g2 g3 g4
      go_loopw [3, 4] (fun t i wr => ∃ k : Nat, k ≤ l.length ∧ i = .int .i64 k ∧ t = .int .i64 (total (l.take k) : Int) ∧ Hid (chunksOk l k = true) ∧ total (l.take k) ≤ 16384 * k ∧ ∃ n, wr = w.drewN n) (fun _ i _ => l.length - (intOf i).toNat)
      case atStart => exact ⟨0, by omega, rfl, rfl, rfl, by simp [total], 0, rfl⟩
      case round =>
        obtain ⟨k, hk, rfl, rfl, hO, hT, n0, rfl⟩ := hrel
        by_cases hlt : k < l.length
        · have hlt64 : (k : Int) < (l.length : Int) := by omega
          have hk0 : (0 : Int) ≤ (k : Int) := by omega
          obtain ⟨u, d1, r1⟩ := seq_at H.out hlt
          unfold IsText at r1
          subst r1
          rw [← atP_get hlt] at d1
          have HC := Lib.hid (@mayP_chunk l k hlt)
          have HI := Lib.hid (@chunkOk_iff l k)
          have HTS := Lib.hid (total_take hlt)
          have HOS := Lib.hid (chunksOk_succ l k)
          have HAT : Hid (atP l k = l[k]) := atP_get hlt
          generalize hs : atP l k = s at *
          have HS := Lib.hid hs
          clear hs
          generalize total (l.take k) = t at *
          by_cases h1 : 1 ≤ s.size ∧ s.size ≤ 16384
          · obtain ⟨h1, h2⟩ := h1
            have g1 : decide (s.size < 1) = false := decide_eq_false (by omega)
            have g2 : decide ((s.size : Int) < 1) = false := decide_eq_false (by omega)
            have g3 : decide ((16384 : Int) < (s.size : Int)) = false := decide_eq_false (by omega)
            have g4 : decide (16384 < s.size) = false := decide_eq_false (by omega)
            go_wp2
            clear g1 g2 g3 g4
            go_loopw [5] (fun i wx => ∃ j : Nat, j ≤ k ∧ i = .int .i64 j ∧ Hid (s ∉ l.take j) ∧ ∃ n, wx = w.drewN n) (fun i _ => k - (intOf i).toNat)
            case atStart => exact ⟨0, by omega, rfl, by show ¬ _; simp, n0, rfl⟩
            case round =>
              obtain ⟨j, hj, rfl, hN, n1, rfl⟩ := hrel
              have d1 : (w.drewN n1).cell? ⟨b0, o0 + k, none⟩ = some (.string s) := d1
              by_cases hjk : j < k
              · have hj64 : (j : Int) < (k : Int) := by omega
                have hjl64 : (j : Int) < (l.length : Int) := by omega
                have hj0 : (0 : Int) ≤ (j : Int) := by omega
                obtain ⟨u', d2, r2⟩ := seq_at H.out (show j < l.length by omega)
                unfold IsText at r2
                subst r2
                have d2 : (w.drewN n1).cell? ⟨b0, o0 + j, none⟩ = some (.string l[j]) := d2
                have HTK : Hid (l.take (j + 1) = l.take j ++ [l[j]]) := (List.take_append_getElem (by omega)).symm
                have hse := txt_eq l[j] s
                have HM : Hid (l[j] = s → s ∈ l.take k) := fun e => by
                  rw [← e, List.mem_take_iff_getElem]
                  exact ⟨j, by omega, rfl⟩
                generalize l[j] = x at *
                by_cases hxs : x = s
                · rw [decide_eq_true hxs] at hse
                  have HR : Hid (mayP l = false) := HC.out (by
                    cases hx : chunkOk l k with
                    | false => rfl
                    | true => exact absurd (HM.out hxs) (HI.out.1 hx).2.2)
                  clear hxs
                  go_wp2_with fail
                  go_quiet (fail)
                  go_wp2
                  go_ret
                  exact ⟨by rw [HR.out] <;> rfl, _, drew_two _ _ _⟩
                · rw [decide_eq_false hxs] at hse
                  have HN2 : Hid (s ∉ l.take (j + 1)) := by
                    show ¬ _
                    rw [HTK.out, List.mem_append, List.mem_singleton]
                    exact fun h => h.elim hN.out (fun e => hxs e.symm)
                  clear hxs
                  go_wp2_with fail
                  go_quiet (fail)
                  go_wp2
                  exact ⟨⟨j + 1, by omega, by go_num, HN2, _, (by first | rfl | exact drew_two _ _ _)⟩, by simp [intOf]; omega⟩
              · obtain rfl : j = k := by omega
                have HON : Hid (chunksOk l (j + 1) = true) := by
                  show _ = _
                  rw [HOS.out, hO.out, HI.out.2 ⟨h1, h2, hN.out⟩]; rfl
                go_wp2
                exact ⟨⟨j + 1, by omega, by go_num, by rw [HTS.out]; go_num, HON, by rw [HTS.out]; omega, _, rfl⟩, by simp [intOf]; omega⟩
          · have HR : Hid (mayP l = false) := HC.out (by
              cases hx : chunkOk l k with
              | false => rfl
              | true => exact absurd ⟨(HI.out.1 hx).1, (HI.out.1 hx).2.1⟩ h1)
            by_cases h2 : s.size < 1
            · have g1 : decide (s.size < 1) = true := decide_eq_true (by omega)
              have g2 : decide ((s.size : Int) < 1) = true := decide_eq_true (by omega)
              clear h1
              go_wp2
              go_ret
              exact ⟨by rw [HR.out] <;> rfl, _, rfl⟩
            · have g1 : decide (s.size < 1) = false := decide_eq_false (by omega)
              have g2 : decide ((s.size : Int) < 1) = false := decide_eq_false (by omega)
              have g3 : decide ((16384 : Int) < (s.size : Int)) = true := decide_eq_true (by omega)
              have g4 : decide (16384 < s.size) = true := decide_eq_true (by omega)
              clear h1
              go_wp2
              go_ret
              exact ⟨by rw [HR.out] <;> rfl, _, rfl⟩
        · obtain rfl : k = l.length := by omega
          have HO := hO
          rw [List.take_length] at hT ⊢
          have HR := Lib.hid (mayP_all HO.out (by omega))
          by_cases h1 : l.length = 1
          · have g1 : ((l.length : Int) == 1) = true := by rw [beq_iff_eq]; omega
            have HE : Hid (mayP l = true) := by show _ = _; rw [HR.out, decide_eq_true h1]; rfl
            clear h1
            go_wp2
            go_ret
            exact ⟨by rw [HE.out] <;> rfl, _, rfl⟩
          · have g1 : ((l.length : Int) == 1) = false := beq_eq_false_iff_ne.2 (by omega)
            have HE : Hid (mayP l = decide (total l ≤ 4096)) := by show _ = _; rw [HR.out, decide_eq_false h1]; rfl
            generalize total l = t at *
            by_cases h2 : t ≤ 4096
            · have g4 : decide ((t : Int) ≤ 4096) = true := decide_eq_true (by omega)
              have g5 : decide (t ≤ 4096) = true := decide_eq_true h2
              clear h1
              go_wp2
              go_ret
              exact ⟨by rw [HE.out, g5] <;> rfl, _, rfl⟩
            · have g4 : decide ((t : Int) ≤ 4096) = false := decide_eq_false (by omega)
              have g5 : decide (t ≤ 4096) = false := decide_eq_false h2
              clear h1
              go_wp2
              go_ret
              exact ⟨by rw [HE.out, g5] <;> rfl, _, rfl⟩
end Go.Proofs.Yteandjophamipaa
/- The walks of the closure that writes a number's two bytes, and of the document's number. -/
namespace Go.Proofs.Yteandjophamipaa
open Go.RowKit
theorem byte_hi (n : Nat) : (n : Int) / 256 % 256 = ((UInt8.ofNat (n / 256)).toNat : Int) := by
  rw [UInt8.toNat_ofNat']; omega
theorem byte_lo (n : Nat) : (n : Int) % 256 = ((UInt8.ofNat n).toNat : Int) := by
  rw [UInt8.toNat_ofNat']; omega
theorem wbyte_e (B b : Nat) (l : List UInt8) (x : UInt8) (c : Int) (w : World) (h : Bld B b l w) (hlen : l.length + 1 ≤ 140737488355328) (hBw : B ≤ w.heap.size) (hc : c = (x.toNat : Int)) :
    Calls Try.prog 36 #[.pointer (some ⟨b, 0, none⟩), .int .u8 c] w fun e w' => e = .returned .nilIface ∧ Bld B b (l ++ [x]) w' ∧ BKept B b w w' := by
  subst hc; exact wbyte_any B b l x w h hlen hBw
set_option maxRecDepth 100000 in
set_option maxHeartbeats 1000000 in
theorem pnum_any (B b n : Nat) (l : List UInt8) (w : World) (h : Bld B b l w) (hl : l.length ≤ 1048576) (hB : B ≤ w.heap.size) :
    Calls Try.prog 35 #[.int .i64 (n : Int), .pointer (some ⟨b, 0, none⟩)] w fun e w' => e = .returned (.tuple #[]) ∧ Bld B b (l ++ num2 n) w' ∧ BKept B b w w' := by
  have H := Lib.hid h
  clear h
  go_enter Try.func35, Try.ntmps35
  go_wp2_with fail
  refine Calls.mono (wbyte_e B b l (UInt8.ofNat (n / 256)) _ _ H.out (by omega) hB (byte_hi n)) ?_
  rintro e w1 ⟨rfl, h1, k1⟩
  have H1 := Lib.hid h1
  have K1 := Lib.hid k1
  clear h1 k1
  go_wp2_with fail
  refine Calls.mono (wbyte_e B b _ (UInt8.ofNat n) _ _ H1.out (by simp; omega) (Nat.le_trans hB K1.out.size) (byte_lo n)) ?_
  rintro e w2 ⟨rfl, h2, k2⟩
  have H2 : Hid (Bld B b (l ++ num2 n) w2) := by
    show Bld _ _ _ _
    have e : l ++ num2 n = l ++ [UInt8.ofNat (n / 256)] ++ [UInt8.ofNat n] := by unfold num2; simp
    rw [e]; exact h2
  have K2 := Lib.hid k2
  clear h2 k2
  go_wp2
  go_end0
  exact ⟨rfl, H2.out, K1.out.trans K2.out⟩
set_option maxRecDepth 100000 in
set_option maxHeartbeats 1000000 in
theorem refnum_any (n : Nat) (w : World) (hn : n ≤ 1048576) :
    Calls Try.prog 40 #[.int .i64 (n : Int)] w fun e w' => e = .returned (.string (strB (num2 n))) ∧ Keeps w w' := by
  have hcv : (convert 56 9 (.slice (some ⟨w.heap.size, 0, none⟩) 2 2)).run Try.prog (w.alloc (.cells #[.int .u8 ((n : Int) / 256 % 256), .int .u8 ((n : Int) % 256)] 5)) = .ok (.string (strB (num2 n))) (w.alloc (.cells #[.int .u8 ((n : Int) / 256 % 256), .int .u8 ((n : Int) % 256)] 5)) := by
    rw [byte_hi, byte_lo]
    exact conv_row Try.underlying56 Try.underlying5 Try.underlying9 (rowAt_lit w (num2 n) 2 2 rfl (by omega))
  go_enter Try.func40, Try.ntmps40
  go_wp2
  go_ret
  exact ⟨rfl, kal w _⟩
end Go.Proofs.Yteandjophamipaa
/- The walks of pack.Make and of the document's. -/
namespace Go.Proofs.Yteandjophamipaa
open Go.RowKit
theorem pmay_e (v : Value) (l : List ByteArray) (w : World) (h : TextsAt w.heap v l) (x : Bool) (e : mayP l = x) : Calls Try.prog 18 #[v] w fun e w' => e = .returned (.bool x) ∧ Keeps w w' := e ▸ pmay_any v l w h
theorem refpmay_e (v : Value) (l : List ByteArray) (w : World) (h : TextsAt w.heap v l) (x : Bool) (e : mayP l = x) : Calls Try.prog 19 #[v] w fun e w' => e = .returned (.bool x) ∧ Keeps w w' := e ▸ kept (refpmay_any v l w h)
/-- What may be a pack is not large. -/
theorem mayP_small {l : List ByteArray} (h : mayP l = true) : 1 ≤ l.length ∧ l.length ≤ 4096 ∧ total l ≤ 16384 ∧ ∀ k, k < l.length → (atP l k).size ≤ 16384 := by
  have hm : ¬ 4096 < l.length := fun x => by rw [mayP_many x] at h; cases h
  unfold mayP at h
  simp only [Bool.and_eq_true, Bool.or_eq_true, decide_eq_true_eq] at h
  obtain ⟨⟨h1, h2⟩, h3⟩ := h
  have hs : ∀ k, k < l.length → (atP l k).size ≤ 16384 := fun k hk => (chunkOk_iff.1 (chunkOk_of h2 hk)).2.1
  refine ⟨h1, by omega, ?_, hs⟩
  rcases h3 with h3 | h3
  · have h4 := total_take (l := l) (k := 0) (by omega)
    have h5 := hs 0 (by omega)
    rw [show 0 + 1 = l.length from by omega, List.take_length] at h4
    rw [h4, List.take_zero]
    simp [total]; exact h5
  · omega
theorem Bld.chg {B b : Nat} {l : List UInt8} {T : Nat → Prop} {w w' : World} (h : Bld B b l w) (c : Chg T w w') (hT : ∀ k, k < w.heap.size → T k → typH w.heap k = some 3) : Bld B b l w' := by
  have key : ∀ p, Lib.BuilderAtF 58 5 B b p (Lib.byteCells l) w → Lib.BuilderAtF 58 5 B b p (Lib.byteCells l) w' := by
    rintro p ⟨h1, v, h2, h3, h4⟩
    have hlt : b < w.heap.size := (Array.getElem?_eq_some_iff.1 h2).1
    refine ⟨h1, v, ?_, ?_, h4⟩
    · rw [c.2.2.2.2 b hlt (fun x => by have := hT b hlt x; rw [typH_of h2] at this; cases this)]; exact h2
    · obtain ⟨k1, k2⟩ := h3
      refine ⟨k1, ?_⟩
      rcases k2 with k2 | ⟨g, cap, cur, fz, e, hg, hh, r⟩
      · exact .inl k2
      · refine .inr ⟨g, cap, cur, fz, e, hg, ?_, r⟩
        have hlg : g < w.heap.size := (Array.getElem?_eq_some_iff.1 hh).1
        rw [c.2.2.2.2 g hlg (fun x => by have := hT g hlg x; rw [typH_of hh] at this; cases this)]; exact hh
  exact h.elim (fun x => .inl (key _ x)) (fun x => .inr (key _ x))
theorem Bld.typ {B b : Nat} {l : List UInt8} {w : World} (h : Bld B b l w) : typH w.heap b = some 58 := by
  rcases h with ⟨_, v, h2, _⟩ | ⟨_, v, h2, _⟩ <;> exact typH_of h2
theorem blen_e (B b : Nat) (l : List UInt8) (w : World) (h : Bld B b l w) (x : Int) (hx : (l.length : Int) = x) :
    Calls Try.prog 38 #[.pointer (some ⟨b, 0, none⟩)] w fun e w' => e = .returned (.int .i64 x) ∧ w = w' := hx ▸ blen_any B b l w h
theorem off_len (l : List ByteArray) (k : Nat) : ((headP l ++ joinP (l.take k)).length : Int) = offP l k := by
  unfold offP; rw [List.length_append, joinP_length]
theorem offs_succ (l : List ByteArray) (k : Nat) : (List.range (k + 1)).map (offP l) = (List.range k).map (offP l) ++ [offP l k] := by rw [List.range_succ, List.map_append]; rfl
theorem OwnSeq.bk {B b : Nat} {l : List Int} {v : Value} {w w' : World} (h : OwnSeq B 3 IsInt w v l) (c : BKept B b w w') (hb : typH w.heap b = some 58) : OwnSeq B 3 IsInt w' v l := by
  refine OwnSeq.chg h c.chg (fun k hk ht => ?_) fun _ _ _ x => x
  obtain ⟨us, h1, _⟩ := h
  have := (own_block h1 k hk).2.2
  rcases ht.2 with e | e
  · subst e; rw [hb] at this; cases this
  · rw [e] at this; cases this

set_option maxRecDepth 100000 in
set_option maxHeartbeats 4000000 in
theorem pmake_any (v : Value) (l : List ByteArray) (w : World) (h : TextsAt w.heap v l) : Calls Try.prog 15 #[v] w (GiveP w (makeP l)) := by
  have hmf : ∀ (fn : Fn) (first cap : Array Value) (w : World), (Instr.makeFunc fn first cap).run Try.prog w = .ok (.func fn first cap) w := fun _ _ _ _ => rfl
  obtain ⟨p, q, rfl⟩ := seq_shape h
  have H := Lib.hid h
  clear h
  cases hm : mayP l with
  | false =>
    have E : Hid (makeP l = (ByteArray.empty, [], 4)) := by show _ = _; unfold makeP; rw [hm]; rfl
    go_enter Try.func15, Try.ntmps15
    go_wp2_with fail
    refine Calls.mono (pmay_e _ l _ H.out _ hm) ?_
    rintro e w1 ⟨rfl, hk⟩
    go_wp2
    go_ret3
    rw [E.out]
    exact GiveP.err hk
  | true =>
    have E : Hid (makeP l = (strB (blobP l), offsP l, 0)) := by show _ = _; unfold makeP; rw [hm]; rfl
    obtain ⟨s1, s2, s3, s4⟩ := mayP_small hm
    have HM := Lib.hid hm
    have HS4 := Lib.hid s4
    clear hm s4
    go_enter Try.func15, Try.ntmps15
    go_wp2_with fail
    refine Calls.mono (pmay_e _ l _ H.out _ HM.out) ?_
    rintro e w1 ⟨rfl, hk⟩
    have HK := Lib.hid hk
    have hs1 := hk.size
    have H1 := Lib.hid (SeqAt.keeps H.out hk)
    clear hk
    go_wp2_with fail
    refine Calls.mono (wtext_any w1.heap.size w1.heap.size [] _ _ (Bld.new w1) (by simp [ByteArray.size]) (by simp)) ?_
    rintro e w2 ⟨rfl, hb2, k2⟩
    have k2' : Kept w1.heap.size w1 w2 := (kal w1 _).then k2.1.kept (Nat.le_refl _)
    have HB2 : Hid (Bld w1.heap.size w1.heap.size [112, 97, 107, 49] w2) := hb2
    have HK2 := Lib.hid (HK.out.call k2' (Nat.le_refl _))
    have H2 := Lib.hid (SeqAt.keeps H1.out k2')
    have hz2 := hb2.lt
    clear hb2 k2 k2'
    go_wp2_with fail
    refine Calls.mono (pnum_any w1.heap.size w1.heap.size l.length _ _ HB2.out (by simp) (by omega)) ?_
    rintro e w3 ⟨rfl, hb3, k3⟩
    have k3' : Kept w1.heap.size w2 w3 := k3.1.kept
    have HB3 : Hid (Bld w1.heap.size w1.heap.size ([112, 97, 107, 49] ++ num2 l.length ++ nums (l.take 0)) w3) := by show Bld _ _ _ _; rw [List.take_zero]; simpa [nums] using hb3
    have HK3 := Lib.hid (HK2.out.then k3' hs1)
    have hz3 := hb3.lt
    clear hb3 k3 k3'
    go_wp2_with fail
    go_loopw [22] (fun i wr => ∃ k : Nat, k ≤ l.length ∧ i = .int .i64 k ∧ Hid (Bld w1.heap.size w1.heap.size ([112, 97, 107, 49] ++ num2 l.length ++ nums (l.take k)) wr) ∧ Hid (Keeps w wr)) (fun i _ => l.length - (intOf i).toNat)
    case atStart => exact ⟨0, by omega, rfl, HB3, HK3⟩
    case round =>
      obtain ⟨k, hk, rfl, hB, hK⟩ := hrel
      by_cases hlt : k < l.length
      · have hlt64 : (k : Int) < (l.length : Int) := by omega
        have hk0 : (0 : Int) ≤ (k : Int) := by omega
        obtain ⟨b, off, c, u, e5, d1, r1⟩ := seq_cell (SeqAt.keeps H.out hK.out) hlt
        injection e5 with e6 e7 e8
        subst e6 e8
        unfold IsText at r1
        subst r1
        rw [← atP_get hlt] at d1
        have hsz := HS4.out k hlt
        have HNS : Hid (nums (l.take (k + 1)) = nums (l.take k) ++ num2 (atP l k).size) := by show _ = _; rw [take_snoc hlt, nums_snoc]
        have hzr := hB.out.lt
        have hnl : (nums (l.take k)).length ≤ 8192 := by rw [nums_length, List.length_take]; omega
        clear e7
        generalize atP l k = s at *
        go_wp2_with fail
        refine Calls.mono (pnum_any w1.heap.size w1.heap.size s.size _ _ hB.out (by simp [num2]; omega) (by omega)) ?_
        rintro e w4 ⟨rfl, hb4, k4⟩
        have HB4 : Hid (Bld w1.heap.size w1.heap.size ([112, 97, 107, 49] ++ num2 l.length ++ nums (l.take (k + 1))) w4) := by show Bld _ _ _ _; rw [HNS.out, ← List.append_assoc]; exact hb4
        have HK4 := Lib.hid (hK.out.then k4.1.kept hs1)
        clear hb4 k4
        go_wp2_with fail
        exact ⟨⟨k + 1, by omega, by go_num, HB4, HK4⟩, by simp [intOf]; omega⟩
      · obtain rfl : k = l.length := by omega
        have HB5 : Hid (Bld w1.heap.size w1.heap.size (headP l ++ joinP (l.take 0)) wr) := by
          have := hB.out
          rw [List.take_length] at this
          show Bld _ _ _ _
          rw [List.take_zero]
          simpa [headP, joinP] using this
        have HK5 := hK
        clear hB hK
        obtain ⟨w5, rfl⟩ : ∃ w5 : World, w5 = wr := ⟨_, rfl⟩
        go_wp2_with fail
        go_loopw [3, 33] (fun u i wx => ∃ k : Nat, k ≤ l.length ∧ i = .int .i64 k ∧ Hid (OwnSeq w1.heap.size 3 IsInt wx u ((List.range k).map (offP l))) ∧ Hid (Bld w1.heap.size w1.heap.size (headP l ++ joinP (l.take k)) wx) ∧ Hid (Keeps w wx)) (fun _ i _ => l.length - (intOf i).toNat)
        case atStart => exact ⟨0, by omega, rfl, OwnSeq.nil _ _ _ _, HB5, HK5⟩
        case round =>
          obtain ⟨k, hk, rfl, hO, hB, hK⟩ := hrel
          by_cases hlt : k < l.length
          · have hlt64 : (k : Int) < (l.length : Int) := by omega
            have hk0 : (0 : Int) ≤ (k : Int) := by omega
            obtain ⟨b, off, c, u, e5, d1, r1⟩ := seq_cell (SeqAt.keeps H.out hK.out) hlt
            injection e5 with e6 e7 e8
            subst e6 e8
            unfold IsText at r1
            subst r1
            rw [← atP_get hlt] at d1
            have hsz := HS4.out k hlt
            have HJS : Hid (joinP (l.take (k + 1)) = joinP (l.take k) ++ (atP l k).data.toList) := by show _ = _; rw [take_snoc hlt, joinP_snoc]
            have hzr := hB.out.lt
            have hjl : (headP l ++ joinP (l.take k)).length ≤ 100000 := by
              rw [List.length_append, headP_length, joinP_length]
              have := total_le l k
              omega
            have HOL := Lib.hid (off_len l k)
            have HOS := Lib.hid (offs_succ l k)
            have hb1 := cell_lt d1
            clear e7
            generalize atP l k = s at *
            generalize offP l k = x at *
            obtain ⟨us, hu1, hu2, hu3⟩ := hO.out
            have hul : us.length = k := by rw [hu2]; simp
            have HU := Lib.hid hu1
            have HL2 := Lib.hid hu2
            have HL3 := Lib.hid hul
            have H3 := Lib.hid hu3
            clear hu1 hu2 hul hu3
            go_wp2_with fail
            refine Calls.mono (blen_e w1.heap.size w1.heap.size _ _ hB.out x HOL.out) ?_
            rintro e w' ⟨rfl, rfl⟩
            go_wp2_with (at_builtin; refine wp_app1 elInt rfl _ _ rfl w1.heap.size u3 us rfl (HU.out.alloc _) _ (.int .i64 x) rfl ?c1 rfl ?c2 ?c3 ?_)
            case c1 => exact World.cell?_alloc_new _ _ _ _
            case c2 => have := HL3.out; omega
            case c3 => simp; omega
            intro v' w6 hown hchg
            have hpush : Hid (OwnSeq w1.heap.size 3 IsInt w6 v' (((List.range k).map (offP l)) ++ [x])) := OwnSeq.push (R := IsInt) HL2.out H3.out hown (fun _ _ _ x => x) rfl
            have hc6 : Chg (fun b => u3.ownBlock = some b) wr w6 := ((Chg.refl _ wr).alloc _).trans hchg
            have HB6 : Hid (Bld w1.heap.size w1.heap.size (headP l ++ joinP (l.take k)) w6) := hB.out.chg hc6 fun b _ hb => (own_block HU.out b hb).2.2
            have HK6 : Hid (Keeps w w6) := hK.out.then (Chg.kept (hc6.mono (T' := fun b => w1.heap.size ≤ b) fun b _ hb => (own_block HU.out b hb).1) (Nat.le_of_lt hzr)) hs1
            have hz6 := HB6.out.lt
            clear hown hchg hc6
            go_wp2_with fail
            refine Calls.mono (wtext_any w1.heap.size w1.heap.size _ s _ HB6.out (by omega) (by omega)) ?_
            rintro e w7 ⟨rfl, hb7, k7⟩
            have HB7 : Hid (Bld w1.heap.size w1.heap.size (headP l ++ joinP (l.take (k + 1))) w7) := by show Bld _ _ _ _; rw [HJS.out, ← List.append_assoc]; exact hb7
            have HO7 : Hid (OwnSeq w1.heap.size 3 IsInt w7 v' ((List.range (k + 1)).map (offP l))) := by show OwnSeq _ _ _ _ _ _; rw [HOS.out]; exact hpush.out.bk k7 HB6.out.typ
            have HK7 := Lib.hid (HK6.out.then k7.1.kept hs1)
            clear hb7 k7
            go_wp2_with fail
            exact ⟨⟨k + 1, by omega, by go_num, HO7, HB7, HK7⟩, by simp [intOf]; omega⟩
          · obtain rfl : k = l.length := by omega
            have hzr := hB.out.lt
            go_wp2_with fail
            refine Calls.mono (btext_any w1.heap.size w1.heap.size _ _ hB.out (by omega)) ?_
            rintro e w8 ⟨rfl, hb8, k8⟩
            have HO8 := Lib.hid (hO.out.bk k8 hB.out.typ)
            have HK8 := Lib.hid (hK.out.then k8.1.kept hs1)
            have HBL : Hid (strB (headP l ++ joinP (l.take l.length)) = strB (blobP l)) := by show _ = _; rw [List.take_length]; rfl
            rw [HBL.out]
            clear hb8 k8
            go_wp2
            go_ret3
            rw [E.out]
            exact ⟨_, rfl, SeqIn.mono (HO8.out.seq (by simp; omega)) (fun b hb => Nat.le_trans hs1 hb) fun _ _ x => x, HK8.out⟩
end Go.Proofs.Yteandjophamipaa
/- The walk of the document's Make. -/
namespace Go.Proofs.Yteandjophamipaa
open Go.RowKit
theorem strB_data_append (r : List UInt8) (s : ByteArray) : strB r ++ s = strB (r ++ s.data.toList) := by
  rw [← strB_append, strB_data]
set_option maxRecDepth 100000 in
set_option maxHeartbeats 4000000 in
theorem refpmake_any (v : Value) (l : List ByteArray) (w : World) (h : TextsAt w.heap v l) : Calls Try.prog 16 #[v] w (GiveP w (makeP l)) := by
  obtain ⟨p, q, rfl⟩ := seq_shape h
  have H := Lib.hid h
  clear h
  cases hm : mayP l with
  | false =>
    have E : Hid (makeP l = (ByteArray.empty, [], 4)) := by show _ = _; unfold makeP; rw [hm]; rfl
    go_enter Try.func16, Try.ntmps16
    go_wp2_with fail
    refine Calls.mono (refpmay_e _ l _ H.out _ hm) ?_
    rintro e w1 ⟨rfl, hk⟩
    go_wp2
    go_ret3
    rw [E.out]
    exact GiveP.err hk
  | true =>
    have E : Hid (makeP l = (strB (blobP l), offsP l, 0)) := by show _ = _; unfold makeP; rw [hm]; rfl
    obtain ⟨s1, s2, s3, s4⟩ := mayP_small hm
    have HM := Lib.hid hm
    have HS4 := Lib.hid s4
    clear hm s4
    go_enter Try.func16, Try.ntmps16
    go_wp2_with fail
    refine Calls.mono (refpmay_e _ l _ H.out _ HM.out) ?_
    rintro e w1 ⟨rfl, hk⟩
    have HK := Lib.hid hk
    clear hk
    go_wp2_with fail
    refine Calls.mono (refnum_any l.length _ (by omega)) ?_
    rintro e w2 ⟨rfl, hk⟩
    have HK := Lib.hid (HK.out.call hk (Nat.le_refl _))
    clear hk
    go_wp2_with fail
    go_loopw [5, 6] (fun u i wr => ∃ k : Nat, k ≤ l.length ∧ i = .int .i64 k ∧ u = .string (strB ([112, 97, 107, 49] ++ num2 l.length ++ nums (l.take k))) ∧ Hid (Keeps w wr)) (fun _ i _ => l.length - (intOf i).toNat)
    case atStart => exact ⟨0, by omega, rfl, (by rw [List.take_zero]; show Value.string (strB [112, 97, 107, 49] ++ strB (num2 l.length)) = _; rw [strB_append]; simp [nums]), HK⟩
    case round =>
      obtain ⟨k, hk, rfl, rfl, hK⟩ := hrel
      by_cases hlt : k < l.length
      · have hlt64 : (k : Int) < (l.length : Int) := by omega
        have hk0 : (0 : Int) ≤ (k : Int) := by omega
        obtain ⟨b, off, c, u, e5, d1, r1⟩ := seq_cell (SeqAt.keeps H.out hK.out) hlt
        injection e5 with e6 e7 e8
        subst e6 e8
        unfold IsText at r1
        subst r1
        rw [← atP_get hlt] at d1
        have hsz := HS4.out k hlt
        have HNS : Hid (nums (l.take (k + 1)) = nums (l.take k) ++ num2 (atP l k).size) := by show _ = _; rw [take_snoc hlt, nums_snoc]
        have hnl : (nums (l.take k)).length ≤ 8192 := by rw [nums_length, List.length_take]; omega
        have hbz : (strB ([112, 97, 107, 49] ++ num2 l.length ++ nums (l.take k))).size ≤ 10000 := by rw [strB_size]; simp [num2]; omega
        clear e7
        generalize atP l k = s at *
        generalize hX : [112, 97, 107, 49] ++ num2 l.length ++ nums (l.take k) = X at *
        have HX := Lib.hid hX
        clear hX
        go_wp2_with fail
        refine Calls.mono (refnum_any s.size _ (by omega)) ?_
        rintro e w4 ⟨rfl, hk4⟩
        have HK4 := Lib.hid (hK.out.call hk4 (Nat.le_refl _))
        have hnz : (strB (num2 s.size)).size = 2 := by rw [strB_size]; rfl
        have HV : Hid (strB X ++ strB (num2 s.size) = strB ([112, 97, 107, 49] ++ num2 l.length ++ nums (l.take (k + 1)))) := by
          show _ = _
          rw [strB_append, HNS.out, ← List.append_assoc, HX.out]
        have hle : (strB X).size + (strB (num2 s.size)).size ≤ 9223372036854775807 := by omega
        clear hk4 hnz
        go_wp2_with fail
        exact ⟨⟨k + 1, by omega, by go_num, by rw [HV.out], HK4⟩, by simp [intOf]; omega⟩
      · obtain rfl : k = l.length := by omega
        have HBH : Hid (strB ([112, 97, 107, 49] ++ num2 l.length ++ nums (l.take l.length)) = strB (headP l ++ joinP (l.take 0))) := by show _ = _; rw [List.take_length, List.take_zero]; simp [headP, joinP]
        rw [HBH.out]
        obtain ⟨w5, rfl⟩ : ∃ w5 : World, w5 = wr := ⟨_, rfl⟩
        go_wp2_with fail
        go_loopw [5, 7, 8] (fun s u i wx => ∃ k : Nat, k ≤ l.length ∧ i = .int .i64 k ∧ s = .string (strB (headP l ++ joinP (l.take k))) ∧ Hid (OwnSeq w5.heap.size 3 IsInt wx u ((List.range k).map (offP l))) ∧ Hid (Keeps w5 wx)) (fun _ _ i _ => l.length - (intOf i).toNat)
        case atStart => exact ⟨0, by omega, rfl, rfl, OwnSeq.nil _ _ _ _, keeps_refl _⟩
        case round =>
          obtain ⟨k, hk, rfl, rfl, hO, hK5⟩ := hrel
          by_cases hlt : k < l.length
          · have hlt64 : (k : Int) < (l.length : Int) := by omega
            have hk0 : (0 : Int) ≤ (k : Int) := by omega
            obtain ⟨b, off, c, u, e5, d1, r1⟩ := seq_cell (SeqAt.keeps H.out (hK.out.call hK5.out (Nat.le_refl _))) hlt
            injection e5 with e6 e7 e8
            subst e6 e8
            unfold IsText at r1
            subst r1
            rw [← atP_get hlt] at d1
            have hsz := HS4.out k hlt
            have HJS : Hid (joinP (l.take (k + 1)) = joinP (l.take k) ++ (atP l k).data.toList) := by show _ = _; rw [take_snoc hlt, joinP_snoc]
            have hjl : (headP l ++ joinP (l.take k)).length ≤ 100000 := by
              rw [List.length_append, headP_length, joinP_length]
              have := total_le l k
              omega
            have hbz : (strB (headP l ++ joinP (l.take k))).size ≤ 100000 := by rw [strB_size]; exact hjl
            have hxe : ((strB (headP l ++ joinP (l.take k))).size : Int) = offP l k := by rw [strB_size]; exact off_len l k
            have HOS := Lib.hid (offs_succ l k)
            have hb1 := cell_lt d1
            have HCE : Hid (∀ wx, Keeps w wx → wx.cell? ⟨b, off + k, none⟩ = some (.string (atP l k))) := fun wx hx => by
              obtain ⟨u', d2, r2⟩ := seq_at (SeqAt.keeps H.out hx) hlt
              unfold IsText at r2
              rw [d2, r2, atP_get hlt]
            have HV : Hid (strB (headP l ++ joinP (l.take k)) ++ atP l k = strB (headP l ++ joinP (l.take (k + 1)))) := by
              show _ = _
              rw [strB_data_append, HJS.out, ← List.append_assoc]
            clear e7
            generalize atP l k = s at *
            generalize offP l k = x at *
            generalize strB (headP l ++ joinP (l.take k)) = B at *
            obtain ⟨us, hu1, hu2, hu3⟩ := hO.out
            have hul : us.length = k := by rw [hu2]; simp
            have HU := Lib.hid hu1
            have HL2 := Lib.hid hu2
            have HL3 := Lib.hid hul
            have H3 := Lib.hid hu3
            have hsz5 := hK5.out.size
            subst hxe
            clear hu1 hu2 hul hu3 hjl
            go_wp2_with (at_builtin; refine wp_app1 elInt rfl _ _ rfl w5.heap.size u7 us rfl (HU.out.alloc _) _ (.int .i64 (B.size : Int)) rfl ?c1 rfl ?c2 ?c3 ?_)
            case c1 => exact World.cell?_alloc_new _ _ _ _
            case c2 => have := HL3.out; omega
            case c3 => simp; omega
            intro v' w6 hown hchg
            have hpush : Hid (OwnSeq w5.heap.size 3 IsInt w6 v' ((List.range (k + 1)).map (offP l))) := by show OwnSeq _ _ _ _ _ _; rw [HOS.out]; exact OwnSeq.push (R := IsInt) HL2.out H3.out hown (fun _ _ _ x => x) rfl
            have hc6 : Chg (fun b => u7.ownBlock = some b) wr w6 := ((Chg.refl _ wr).alloc _).trans hchg
            have HK6 : Hid (Keeps w5 w6) := hK5.out.then (Chg.kept (hc6.mono (T' := fun b => w5.heap.size ≤ b) fun b _ hb => (own_block HU.out b hb).1) hsz5) (Nat.le_refl _)
            have d1 : w6.cell? ⟨b, off + k, none⟩ = some (.string s) := by
              exact HCE.out _ (hK.out.call HK6.out (Nat.le_refl _))
            clear hown hchg hc6
            go_wp2_with fail
            exact ⟨⟨k + 1, by omega, by go_num, by rw [HV.out], hpush, HK6⟩, by simp [intOf]; omega⟩
          · obtain rfl : k = l.length := by omega
            have HBL : Hid (strB (headP l ++ joinP (l.take l.length)) = strB (blobP l)) := by show _ = _; rw [List.take_length]; rfl
            rw [HBL.out]
            have hs1 := hK.out.size
            have HKE : Hid (Keeps w wr) := hK.out.call hK5.out (Nat.le_refl _)
            go_wp2
            go_ret3
            rw [E.out]
            exact ⟨_, rfl, SeqIn.mono (hO.out.seq (by simp; omega)) (fun b hb => Nat.le_trans hs1 hb) fun _ _ x => x, HKE.out⟩
end Go.Proofs.Yteandjophamipaa
