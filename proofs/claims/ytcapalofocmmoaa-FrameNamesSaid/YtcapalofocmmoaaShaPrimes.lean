/- The walks of sha.primes and of sha.New. -/
import Derived.Test.YtcapalofocmmoaaShaNew
import Derived.Test.YtcapalofocmmoaaText
namespace Go.Proofs.Ytcapalofocmmoaa
open Go.RowKit
def IsU64 (v : Value) (n : Nat) : Prop := v = .int .u64 (n : Int)
def IsU32 (v : Value) (n : Nat) : Prop := v = .int .u32 (n : Int)
theorem elU64 : ElemTy Try.prog 69 71 (.int .u64 0) 8 := ⟨Try.underlying69, by kernel_rfl, rfl, by decide⟩
theorem elU32 : ElemTy Try.prog 66 64 (.int .u32 0) 4 := ⟨Try.underlying66, by kernel_rfl, rfl, by decide⟩
set_option maxRecDepth 100000 in
set_option maxHeartbeats 4000000 in
theorem primes_any (w : World) :
    Calls Try.prog 37 #[.int .i64 64] w fun e w' => ∃ v, e = .returned v ∧ SeqIn (w.heap.size ≤ ·) 71 IsU64 w'.heap v SH.primesL ∧ Keeps w w' := by
  go_enter Try.func37, Try.ntmps37
  go_wp2
  go_loopw [3, 4] (fun v i wr => ∃ m : Nat, 2 ≤ m ∧ i = .int .u64 (m : Int) ∧ Hid (OwnSeq w.heap.size 71 IsU64 wr v (SH.primesB m)) ∧ Hid ((SH.primesB m).length ≤ 64) ∧ Hid (Keeps w wr)) (fun _ i _ => 312 - (intOf i).toNat)
  case atStart => exact ⟨2, by omega, rfl, OwnSeq.nil _ _ _ _, (by show _ ≤ _; rw [SH.primesB_two]; decide), keeps_refl w⟩
  case round =>
    obtain ⟨m, hm, rfl, hO, hL, hK⟩ := hrel
    obtain ⟨us, hu1, hu2, hu3⟩ := hO.out
    have HU := Lib.hid hu1
    have HL2 := Lib.hid hu2
    have H3 := Lib.hid hu3
    have hle : us.length ≤ 64 := by rw [hu2]; exact hL.out
    obtain ⟨pv, qv, rfl⟩ : ∃ p q, u3 = .slice p us.length q := by
      obtain ⟨p, q, e⟩ := seq_shape (SeqIn.at_ (hO.out.seq (by have := hL.out; omega)))
      exact ⟨p, q, by rw [e, hu2]⟩
    clear hu1 hu2 hu3
    by_cases hlt : us.length < 64
    · have hm2 : m < 312 := SH.primesB_few (by have := HL2.out; omega)
      have HS := Lib.hid (SH.primesB_succ m hm)
      have g1 : (us.length : Int) < 64 := by omega
      go_wp2_with fail
      refine Calls.mono (prime_any m _ hm (by omega)) ?_
      rintro e w' ⟨rfl, rfl⟩
      cases hp : SH.primeB m with
      | false =>
        have HN : Hid (SH.primesB (m + 1) = SH.primesB m) := by show _ = _; rw [HS.out, hp]; rfl
        clear hp
        go_wp2
        refine ⟨⟨m + 1, by omega, by go_num, ?_, ?_, hK⟩, by simp [intOf]; omega⟩
        · rw [HN.out]; exact hO
        · rw [HN.out]; exact hL
      | true =>
        have HN : Hid (SH.primesB (m + 1) = SH.primesB m ++ [m]) := by show _ = _; rw [HS.out, hp]; rfl
        have hb := hK.out.size
        clear hp
        go_wp2_with (at_builtin; refine wp_app1 elU64 rfl _ _ rfl w.heap.size _ us rfl (HU.out.alloc _) _ (.int .u64 (m : Int)) rfl ?c1 rfl ?c2 ?c3 ?_)
        case c1 => exact World.cell?_alloc_new _ _ _ _
        case c2 => omega
        case c3 => simp; omega
        intro v' w6 hown hchg
        have hpush : Hid (OwnSeq w.heap.size 71 IsU64 w6 v' (SH.primesB (m + 1))) := by show OwnSeq _ _ _ _ _ _; rw [HN.out]; exact OwnSeq.push (R := IsU64) HL2.out H3.out hown (fun _ _ _ x => x) rfl
        have HK6 : Hid (Keeps w w6) := hK.out.then (Chg.kept ((((Chg.refl _ wr).alloc _).trans hchg).mono (T' := fun b => w.heap.size ≤ b) fun b _ hb => (own_block HU.out b hb).1) hb) (Nat.le_refl _)
        have HL6 : Hid ((SH.primesB (m + 1)).length ≤ 64) := by show _ ≤ _; rw [HN.out, List.length_append, ← HL2.out]; simp; omega
        clear hown hchg
        go_wp2
        exact ⟨⟨m + 1, by omega, by go_num, hpush, HL6, HK6⟩, by simp [intOf]; omega⟩
    · have g1 : ¬ (us.length : Int) < 64 := by omega
      have HF : Hid (SH.primesB m = SH.primesL) := SH.primesB_full (by have := HL2.out; omega)
      have HR : Hid (SeqIn (w.heap.size ≤ ·) 71 IsU64 wr.heap (.slice pv us.length qv) SH.primesL) := by
        show SeqIn _ _ _ _ _ _
        rw [← HF.out]; exact hO.out.seq (by have := hL.out; omega)
      go_wp2
      go_ret
      exact ⟨_, rfl, HR.out, hK.out⟩
end Go.Proofs.Ytcapalofocmmoaa
