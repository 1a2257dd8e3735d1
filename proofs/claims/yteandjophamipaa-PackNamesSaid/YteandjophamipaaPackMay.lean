/- The walks of pack.May and of the document's. -/
import Derived.Test.YteandjophamipaaPackSpec
import Derived.Maps.OwnOps
import Derived.Maps.Views
import Derived.StringKeys
namespace Go.Proofs.Yteandjophamipaa
open Go.RowKit Go.Maps
theorem lawK : Keyed Try.prog 9 := string_keyed Try.underlying9
theorem zeroI (w : World) : (zeroValue 3).run Try.prog w = .ok (.int .i64 0) w := by kernel_rfl
/-- A text as a map's key. -/
def keyT (s : ByteArray) : Lit := .string s.data.toList
theorem key_of (s : ByteArray) (h : s.size ≤ maxLen) : keyOf Try.prog 9 (.string s) = some (keyT s) := Go.WideMaps.keyOf_string_mk Try.underlying9 h
theorem keyT_inj {a b : ByteArray} (h : keyT a = keyT b) : a = b := by
  unfold keyT at h
  injection h with h
  rw [← strB_data a, ← strB_data b, h]
def numD (c : Nat) : DataW Unit := .lit (.int .i64 (c : Int))
theorem numD_inj {c : Nat} {c' : Int} (h : numD c = DataW.lit (Lit.int .i64 c')) : c' = (c : Int) := by
  have := congrArg (fun d : DataW Unit => match d with | DataW.lit (Lit.int _ n) => n | _ => 0) h
  exact this.symm
/-- Block B is a map that counts how often each text was met. -/
def Met (B : Nat) (w : World) (l : List ByteArray) : Prop :=
  ∃ D : DataW Unit, w.ownsMap Try.prog 9 (plainElem Try.prog 3) B l.length D ∧ ∀ s : ByteArray, ∃ c : Nat, D.atKey (keyT s) (.lit (.int .i64 0)) = numD c ∧ c ≤ l.length ∧ (0 < c ↔ s ∈ l)
theorem Met.new (w : World) : Met w.heap.size (w.alloc (.map #[] 0)) [] :=
  ⟨.map [], World.ownsMap_made _ _ _ _, fun s => ⟨0, rfl, Nat.le_refl _, by simp⟩⟩
theorem Met.chg {B : Nat} {w w' : World} {l : List ByteArray} (h : Met B w l) (k : Chg (fun b => b ≠ B) w w') : Met B w' l := by
  obtain ⟨D, hD, hc⟩ := h
  have hlt := hD.lt
  obtain ⟨es, clock, hb, F⟩ := hD
  refine ⟨D, ⟨es, clock, ?_, F⟩, hc⟩
  rw [k.2.2.2.2 B hlt (fun x => x rfl)]; exact hb
/-- What was met of a text. -/
theorem Met.at_ {B : Nat} {w : World} {l : List ByteArray} (h : Met B w l) (s : ByteArray) (hs : s.size ≤ maxLen) :
    ∃ (c : Nat) (D : DataW Unit), (Instr.lookup 68 (.map (some B)) (.string s) false).run Try.prog w = .ok (.int .i64 (c : Int)) w ∧ c ≤ l.length ∧ (0 < c ↔ s ∈ l) ∧
      w.ownsMap Try.prog 9 (plainElem Try.prog 3) B l.length D ∧ ∀ w', w'.ownsMap Try.prog 9 (plainElem Try.prog 3) B (l.length + 1) (D.put (keyT s) (numD (c + 1))) → Met B w' (l ++ [s]) := by
  obtain ⟨D, hD, hc⟩ := h
  obtain ⟨c, h1, h2, h3⟩ := hc s
  obtain ⟨c', hrun, hat, _⟩ := hD.lookup_int lawK Try.underlying68 Try.underlying3 (zeroI _) (key_of s hs)
  have e : c' = (c : Int) := by
    exact numD_inj (h1.symm.trans hat)
  subst e
  have hM : IsMap D := by obtain ⟨es, clock, hb, F, _, hd⟩ := hD; exact ⟨_, hd⟩
  refine ⟨c, D, hrun, h2, h3, hD, fun w' h' => ⟨D.put (keyT s) (numD (c + 1)), by rw [List.length_append]; exact h', fun t => ?_⟩⟩
  by_cases e : t = s
  · subst e
    refine ⟨c + 1, atKey_put_same hM (by unfold keyT; trivial) _ _, by rw [List.length_append]; simp; omega, by simp⟩
  · obtain ⟨ct, k1, k2, k3⟩ := hc t
    refine ⟨ct, (atKey_put_other (fun x => e (keyT_inj x)) _ _).trans k1, by rw [List.length_append]; omega, ?_⟩
    rw [k3, List.mem_append, List.mem_singleton]
    exact ⟨fun h => .inl h, fun h => h.elim id (fun x => absurd x e)⟩
theorem chg_map {w w' : World} {B : Nat} (h : w.grownBy w' (some B)) : Chg (fun b => b = B) w w' := (Chg.refl _ w).grown h fun k hk _ => by cases hk; rfl

set_option maxRecDepth 100000 in
set_option maxHeartbeats 4000000 in
theorem pmay_any (v : Value) (l : List ByteArray) (w : World) (h : TextsAt w.heap v l) : Calls Try.prog 18 #[v] w fun e w' => e = .returned (.bool (mayP l)) ∧ Keeps w w' := by
  obtain ⟨p, q, rfl⟩ := seq_shape h
  have hl63 : l.length ≤ 9223372036854775807 := let ⟨_, _, _, x, _⟩ := h; x
  have H := Lib.hid h
  have hmm := @run_makeMap Try.prog
  clear h
  go_enter Try.func18, Try.ntmps18
  go_wp2
  clear hmm
  go_loopw [3, 10] (fun t i wr => ∃ k : Nat, k ≤ l.length ∧ i = .int .i64 k ∧ t = .int .i64 (total (l.take k) : Int) ∧ Hid (chunksOk l k = true) ∧ total (l.take k) ≤ 20480 ∧ Hid (Met w.heap.size wr (l.take k)) ∧ Hid (Keeps w wr)) (fun _ i _ => l.length - (intOf i).toNat)
  case atStart => exact ⟨0, by omega, rfl, rfl, rfl, by simp [total], Met.new w, kal w _⟩
  case round =>
    obtain ⟨k, hk, rfl, rfl, hO, hT, hM, hK⟩ := hrel
    by_cases hlt : k < l.length
    · have hlt64 : (k : Int) < (l.length : Int) := by omega
      have hk0 : (0 : Int) ≤ (k : Int) := by omega
      obtain ⟨b, off, c, u, e5, d1, r1⟩ := seq_cell (SeqAt.keeps H.out hK.out) hlt
      injection e5 with e6 e7 e8
      subst e6 e8
      unfold IsText at r1
      subst r1
      rw [← atP_get hlt] at d1
      have HC := Lib.hid (@mayP_chunk l k hlt)
      have HTT := Lib.hid (@mayP_total l k hlt)
      have HI := Lib.hid (@chunkOk_iff l k)
      have HS := Lib.hid (take_snoc hlt)
      have HTS := Lib.hid (total_take hlt)
      have HOS := Lib.hid (chunksOk_succ l k)
      have hkt : (l.take k).length = k := by rw [List.length_take]; omega
      have HKT := Lib.hid hkt
      clear hkt e7
      generalize atP l k = s at *
      generalize total (l.take k) = t at *
      by_cases h1 : 1 ≤ s.size ∧ s.size ≤ 16384
      · obtain ⟨h1, h2⟩ := h1
        obtain ⟨c, D, hrun, c1, c2, hown, hstep⟩ := hM.out.at_ s (by unfold maxLen; omega)
        rw [HKT.out] at c1 hown hstep
        have HOW := Lib.hid hown
        have HST := Lib.hid hstep
        have g1 : decide (s.size < 1) = false := decide_eq_false (by omega)
        have g2 : decide ((s.size : Int) < 1) = false := decide_eq_false (by omega)
        have g3 : decide ((16384 : Int) < (s.size : Int)) = false := decide_eq_false (by omega)
        have g4 : decide (16384 < s.size) = false := decide_eq_false (by omega)
        clear hown hstep
        by_cases h3 : 0 < c
        · have g5 : decide (0 < c) = true := decide_eq_true h3
          have g6 : decide ((0 : Int) < (c : Int)) = true := decide_eq_true (by omega)
          have HR : Hid (mayP l = false) := HC.out (by
            cases hx : chunkOk l k with
            | false => rfl
            | true => exact absurd (c2.1 h3) (HI.out.1 hx).2.2)
          clear c2
          go_wp2
          go_ret
          exact ⟨by rw [HR.out] <;> rfl, hK.out⟩
        · have g5 : decide (0 < c) = false := decide_eq_false h3
          have g6 : decide ((0 : Int) < (c : Int)) = false := decide_eq_false (by omega)
          have hc0 : c = 0 := by omega
          by_cases h4 : 4096 < t
          · have g7 : decide (4096 < t) = true := decide_eq_true h4
            have g8 : decide ((4096 : Int) < (t : Int)) = true := decide_eq_true (by omega)
            have HR : Hid (mayP l = false) := HTT.out h4
            clear c2 hc0
            go_wp2
            go_ret
            exact ⟨by rw [HR.out] <;> rfl, hK.out⟩
          · have g7 : decide (4096 < t) = false := decide_eq_false h4
            have g8 : decide ((4096 : Int) < (t : Int)) = false := decide_eq_false (by omega)
            have HON : Hid (chunksOk l (k + 1) = true) := by
              show _ = _
              rw [HOS.out, hO.out, HI.out.2 ⟨h1, h2, fun x => h3 (c2.2 x)⟩]; rfl
            have hwf : (Lit.int .i64 ((c : Int) + 1)).wf = true := by subst hc0; decide
            have hkey := key_of s (by unfold maxLen; omega)
            clear c2 hc0
            go_wp2_with (at_mapUpdate; refine wpList_mapUpdate_own _ rfl _ _ _ 68 rfl 9 3 lawK Try.underlying68 _ w.heap.size k D rfl HOW.out ?c1 _ _ _ rfl rfl hkey (numD (c + 1)) [] ?c2 ?_)
            case c1 => unfold maxLen; omega
            case c2 => exact plainElem_int Try.underlying3 hwf
            intro w1 hown1 hgrow1
            have HM1 : Hid (Met w.heap.size w1 (l.take (k + 1))) := by show Met _ _ _; rw [HS.out]; exact HST.out _ hown1
            have HK1 : Hid (Keeps w w1) := (hK.out.chg.trans ((chg_map hgrow1).mono fun b _ h => by rw [h]; exact Nat.le_refl _)).keeps fun b hb h => by omega
            clear hown1 hgrow1 hrun
            go_wp2
            exact ⟨⟨k + 1, by omega, by go_num, by rw [HTS.out]; go_num, HON, by rw [HTS.out]; omega, HM1, HK1⟩, by simp [intOf]; omega⟩
      · have HR : Hid (mayP l = false) := HC.out (by
          cases hx : chunkOk l k with
          | false => rfl
          | true => exact absurd ⟨(HI.out.1 hx).1, (HI.out.1 hx).2.1⟩ h1)
        by_cases h2 : s.size < 1
        · have g1 : decide (s.size < 1) = true := decide_eq_true (by omega)
          have g2 : decide ((s.size : Int) < 1) = true := decide_eq_true (by omega)
          clear h1
          go_wp2
          go_ret
          exact ⟨by rw [HR.out] <;> rfl, hK.out⟩
        · have g1 : decide (s.size < 1) = false := decide_eq_false (by omega)
          have g2 : decide ((s.size : Int) < 1) = false := decide_eq_false (by omega)
          have g3 : decide ((16384 : Int) < (s.size : Int)) = true := decide_eq_true (by omega)
          have g4 : decide (16384 < s.size) = true := decide_eq_true (by omega)
          clear h1
          go_wp2
          go_ret
          exact ⟨by rw [HR.out] <;> rfl, hK.out⟩
    · obtain rfl : k = l.length := by omega
      have HO := hO
      rw [List.take_length] at hT ⊢
      by_cases h0 : l.length = 0
      · have e0 : l = [] := List.length_eq_zero_iff.1 h0
        subst e0
        go_wp2
        go_ret
        exact ⟨rfl, hK.out⟩
      · have HR := Lib.hid (mayP_all HO.out (by omega))
        have hn : ¬ ((l.length : Int) < 1) := by omega
        by_cases h1 : l.length = 1
        · have g1 : ((l.length : Int) == 1) = true := by rw [beq_iff_eq]; omega
          have HE : Hid (mayP l = true) := by show _ = _; rw [HR.out, decide_eq_true h1]; rfl
          clear h0 h1
          go_wp2
          go_ret
          exact ⟨by rw [HE.out] <;> rfl, hK.out⟩
        · have g1 : ((l.length : Int) == 1) = false := beq_eq_false_iff_ne.2 (by omega)
          have g2 : decide ((1 : Int) < (l.length : Int)) = true := decide_eq_true (by omega)
          have g3 : decide (1 < l.length) = true := decide_eq_true (by omega)
          have HE : Hid (mayP l = decide (total l ≤ 4096)) := by show _ = _; rw [HR.out, decide_eq_false h1]; rfl
          generalize total l = t at *
          by_cases h2 : t ≤ 4096
          · have g4 : decide ((t : Int) ≤ 4096) = true := decide_eq_true (by omega)
            have g5 : decide (t ≤ 4096) = true := decide_eq_true h2
            clear h0 h1
            go_wp2
            go_ret
            exact ⟨by rw [HE.out, g5] <;> rfl, hK.out⟩
          · have g4 : decide ((t : Int) ≤ 4096) = false := decide_eq_false (by omega)
            have g5 : decide (t ≤ 4096) = false := decide_eq_false h2
            clear h0 h1
            go_wp2
            go_ret
            exact ⟨by rw [HE.out, g5] <;> rfl, hK.out⟩
end Go.Proofs.Yteandjophamipaa
