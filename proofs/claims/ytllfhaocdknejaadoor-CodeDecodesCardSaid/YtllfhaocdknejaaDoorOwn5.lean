/- The walks of slices.Clone and of package solve's own. -/
import Derived.Test.YtllfhaocdknejaaDoorLies5
import Derived.Test.YtllfhaocdknejaaDoorRows5
import Derived.Test.YtllfhaocdknejaaDoorAppZ
namespace Go.Proofs.YtllfhaocdknejaaDoor
open Go.RowKit

set_option maxRecDepth 100000 in
set_option maxHeartbeats 1000000 in
theorem clone_any (b o n c : Nat) (r : List UInt8) (w : World) (hr : RowAt w.heap (.slice (some ⟨b, o, none⟩) n c) r) (hn : r.length = n) (h1 : n ≤ 4096) :
    Calls Tryd.prog 67 #[.slice (some ⟨b, o, none⟩) n c] w fun e w' => ∃ v, e = .returned v ∧ w'.ownsRow w.heap.size 5 1 v (bytesV r).length (bytesV r) ∧ Keeps w w' := by
  have HR := Lib.hid hr
  have HN := Lib.hid hn
  clear hr hn
  have hk5 : Keeps w (w.alloc (.cells #[] 5)) := (Kept.refl _ _).alloc (Nat.le_refl _) _
  have R5 : Hid (RowAt (w.alloc (.cells #[] 5)).heap (.slice (some ⟨b, o, none⟩) n c) r) := SeqAt.keeps HR.out hk5
  clear hk5
  have he : ∀ w : World, (binOp .eql 39 (.slice (some ⟨b, o, none⟩) n c) (.slice none 0 0)).run Tryd.prog w = .ok (.bool false) w := fun _ => rfl
  go_enter Tryd.func67, Tryd.ntmps67
  go_wp2_with (at_builtin; refine wp_apps elRow rfl _ _ rfl w.heap.size _ [] rfl (own_empty _ _ _ (Nat.le_refl _)) b o n c (bytesV r) rfl (by rw [bytesV_length]; exact HN.out) (bytesV_at R5.out) (bytesV_one r) ?c1 ?c2 ?_)
  case c1 => have := HN.out; simp only [List.length_nil, bytesV_length]; omega
  case c2 => simp
  intro v6 w6 hown6 hchg6
  have hc6 : Hid (Keeps w w6) := (((Chg.refl (fun x => x = w.heap.size) w).alloc _).trans (hchg6.mono fun x _ h => by simp only [Value.ownBlock, Option.some.injEq] at h; exact h.symm)).keeps fun x hx e => by omega
  have HO : Hid (w6.ownsRow w.heap.size 5 1 v6 (bytesV r).length (bytesV r)) := Lib.hid (by simpa using hown6)
  clear hown6 hchg6
  go_wp2
  go_ret
  exact ⟨_, rfl, HO.out, hc6.out⟩

/-- What own hands back. -/
def GiveLies (w : World) (L n : Nat) (F : Nat → Nat → UInt8) (e : Ending) (w' : World) : Prop :=
  ∃ g cap ρ κ, e = .returned (.slice (some ⟨g, 0, none⟩) L cap) ∧ Lies w.heap.size w'.heap g cap L n F ρ κ ∧ Keeps w w'

theorem wide_row {m : List (List UInt8)} {n more k : Nat} (h : (m.getD k []).length = n) {us : List Value} (hu : us = bytesV (m.getD k []) ++ List.replicate more (.int .u8 0)) (j : Nat) (hj : j < n + more) :
    us[j]? = some (.int .u8 ((LA.at_ m k j).toNat : Int)) := by
  subst hu
  have hl := bytesV_length (m.getD k [])
  unfold LA.at_
  by_cases e : j < n
  · rw [List.getElem?_append_left (by omega)]
    have hj' : j < (m.getD k []).length := by omega
    generalize m.getD k [] = r at *
    unfold bytesV
    rw [List.getElem?_map, List.getD_eq_getElem?_getD, List.getElem?_eq_getElem hj']; rfl
  · rw [List.getElem?_append_right (by omega), List.getElem?_replicate, if_pos (by omega), List.getD_eq_getElem?_getD, List.getElem?_eq_none (by omega)]; rfl
theorem own_cap {w : World} {base g cap n : Nat} {us : List Value} (h : w.ownsRow base 5 1 (.slice (some ⟨g, 0, none⟩) n cap) n us) : n ≤ cap := by
  rcases h.2 with ⟨h0, _⟩ | ⟨g', cap', cur, e, hb, hg, hc1, hc2, hc3, hc4⟩
  · cases h0
  · injection e with e1 e2 e3
    omega
theorem rowF_own {w : World} {base g cap n : Nat} {us : List Value} {f : Nat → UInt8} (h : w.ownsRow base 5 1 (.slice (some ⟨g, 0, none⟩) n cap) n us) (hf : ∀ j, j < n → us[j]? = some (.int .u8 ((f j).toNat : Int))) : RowF w.heap g n f := by
  rcases h.2 with ⟨h0, _⟩ | ⟨g', cap', cur, e, hb, hg, hc1, hc2, hc3, hc4⟩
  · cases h0
  · injection e with e1 e2 e3
    simp only [Option.some.injEq, Addr.mk.injEq] at e1
    obtain ⟨rfl, _⟩ := e1
    refine ⟨typH_of hg, fun j hj => ⟨?_, ?_⟩⟩
    · unfold frozH; simp only [hg]; simp
    · unfold cellH; simp only [hg]
      rw [← hf j hj, ← hc4, List.getElem?_take, if_pos (by omega)]; simp

set_option maxRecDepth 100000 in
set_option maxHeartbeats 4000000 in
theorem sown_any (va : Value) (m : List (List UInt8)) (more : Nat) (w : World) (ha : MatAt w.heap va m) (hm : mayB 255 m = true) (hmore : more ≤ 255) :
    Calls Tryd.prog 52 #[va, .int .i64 (more : Int)] w (GiveLies w m.length ((m.headD []).length + more) (LA.at_ m)) := by
  obtain ⟨a1, a2, a3, a4, _⟩ := mayB_iff.1 hm
  obtain ⟨pa, qa, rfl⟩ := seq_shape ha
  obtain ⟨n, hn⟩ : ∃ n, n = (m.headD []).length := ⟨_, rfl⟩
  rw [← hn] at a3 a4 ⊢
  have hrl : ∀ k, k < m.length → (m.getD k []).length = n := fun k hk => by rw [hn]; exact may_row hm hk
  have HA := Lib.hid ha
  have HRL := Lib.hid hrl
  clear ha hm hn hrl
  go_enter Tryd.func52, Tryd.ntmps52
  go_wp2
  go_loopw [5, 10] (fun v i wr => ∃ k : Nat, k ≤ m.length ∧ i = .int .i64 k ∧ Hid (∃ ρ κ, Grows w.heap.size wr v k (n + more) (LA.at_ m) ρ κ) ∧ Hid (Keeps w wr)) (fun _ i _ => m.length - (intOf i).toNat)
  case atStart => exact ⟨0, by omega, rfl, ⟨_, _, Grows.nil _ _ _ _⟩, keeps_refl w⟩
  case round =>
    obtain ⟨k, hk, rfl, hR, hK⟩ := hrel
    by_cases hlt : k < m.length
    · have hlt64 : (k : Int) < (m.length : Int) := by omega
      have hge0 : (0 : Int) ≤ (k : Int) := by omega
      obtain ⟨b1, o1, c1, u1, e5, d1, r1⟩ := mat_row (HA.out.keeps hK.out) hlt
      injection e5 with e6 e7 e8
      subst e6 e8
      clear e7
      obtain ⟨q0, o0, c0, e9, _⟩ := row_cell (j := 0) r1 (by rw [HRL.out k hlt]; omega)
      subst e9
      rw [HRL.out k hlt] at d1 r1
      have HW : Hid (∀ us j, us = bytesV (m.getD k []) ++ List.replicate more (.int .u8 0) → j < n + more → us[j]? = some (.int .u8 ((LA.at_ m k j).toNat : Int))) := fun us j hu hj => wide_row (HRL.out k hlt) hu j hj
      have HL0 : Hid ((m.getD k []).length = n) := HRL.out k hlt
      have R1 := Lib.hid r1
      have hsz := hK.out.size
      clear r1
      generalize m.getD k [] = r at *
      go_wp2_with fail
      refine Calls.mono (clone_any q0 o0 n c0 r _ R1.out HL0.out (by omega)) ?_
      rintro e w1 ⟨v1, rfl, ho1, hk1⟩
      have hbl : (bytesV r).length = n := by rw [bytesV_length]; exact HL0.out
      obtain ⟨v2, w2, hrun, ho2, hc2⟩ := run_appz (P := Tryd.prog) elRow rfl rfl Tryd.underlying3 39 wr.heap.size v1 (bytesV r) ho1 (by omega) more (by omega) hk1.size
      rw [hbl] at ho1 ho2
      obtain ⟨g1, cap1, rfl, _, _⟩ := ho1.form (by omega)
      obtain ⟨g2, cap2, rfl, hg2, hl2⟩ := ho2.form (by omega)
      have HCAP2 : Hid (n + more ≤ cap2) := own_cap ho2
      have hF : Hid (RowF w2.heap g2 (n + more) (LA.at_ m k)) := rowF_own ho2 fun j hj => HW.out _ j rfl hj
      have hT : Hid (Chg (fun x => wr.heap.size ≤ x) wr w2) := (hk1.chg).trans (hc2.mono fun x _ hx => (own_block ho1 x hx).1)
      clear ho1 hk1 ho2 hc2
      clear hbl
      obtain ⟨ρ, κ, us, hu1, hu2, hu3, hu4, hu5⟩ := hR.out
      have HO : Hid (w2.ownsRow w.heap.size 39 1 u5 us.length us) := owns_chg hu1 hT.out fun b hb e => by have := (own_block hu1 b hb).2.1; omega
      have HU1 := Lib.hid hu1
      have HU2 := Lib.hid hu2
      have HU3 := Lib.hid hu3
      have HU4 := Lib.hid hu4
      have HU5 := Lib.hid hu5
      have hs2 := hT.out.size
      clear hu1 hu2 hu3 hu4 hu5
      go_wp2_with (first | (at_builtin; refine Lib.wpList_append_run _ rfl _ _ _ _ rfl _ _ rfl rfl _ _ hrun ?_) | (at_builtin; refine wp_app1 elRows rfl _ _ rfl w.heap.size u5 us rfl (HO.out.alloc _) _ (.slice (some ⟨g2, 0, none⟩) (n + more) cap2) rfl ?d1 rfl ?d2 ?d3 ?_))
      case d1 => simp [go_sem]
      case d2 => have := HU2.out; omega
      case d3 => simp; omega
      intro v' w3 hown hchg
      have ca : Chg (fun x => wr.heap.size ≤ x) wr (w2.alloc (.cells #[.slice (some ⟨g2, 0, none⟩) (n + more) cap2] 39)) := hT.out.alloc _
      have hpush : Hid (∃ ρ κ, Grows w.heap.size w3 v' (k + 1) (n + more) (LA.at_ m) ρ κ) := ⟨_, _, Grows.push (f := LA.at_ m k) HU2.out HU3.out HU4.out HU5.out ca (fun b hb e => by omega) hg2 (Nat.le_trans hsz hg2) (hF.out.chg (T := fun _ => False) ((Chg.refl _ w2).alloc _) (fun x => x)) HCAP2.out hown hchg
        (fun b hb => by
          obtain ⟨_, h5, h6⟩ := own_block HO.out b hb
          exact typH_chg (T := fun _ => False) ((Chg.refl _ w2).alloc _) h6 (fun x => x)) (fun _ _ => rfl)⟩
      have hk2 : Hid (Keeps w w3) := ((hK.out.chg.trans (ca.mono fun b hb e => by omega)).trans (hchg.mono fun b hb0 hb => (own_block HU1.out b hb).1)).keeps fun b hb hx => by omega
      clear hown hchg ca
      go_wp2
      exact ⟨⟨k + 1, by omega, rfl, hpush, hk2⟩, by simp [intOf]; omega⟩
    · obtain rfl : k = m.length := by omega
      obtain ⟨ρ, κ, hG⟩ := hR.out
      obtain ⟨g, cap, rfl, hl⟩ := hG.lies (by omega)
      have HL := Lib.hid hl
      clear hG hl
      go_wp2
      go_ret
      exact ⟨g, cap, ρ, κ, rfl, HL.out, hK.out⟩
end Go.Proofs.YtllfhaocdknejaaDoor
