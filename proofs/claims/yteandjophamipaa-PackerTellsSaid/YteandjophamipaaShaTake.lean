/- The walk of (*sha.Hash).take. -/
import Derived.Test.YteandjophamipaaShaChange
import Derived.Test.YteandjophamipaaAppAt
import Derived.Deep.LoopGhost
import Derived.Deep.DeepCutAuto
namespace Go.Proofs.Yteandjophamipaa
open Go.RowKit
/-- Block b is a hash: its numbers, what is left, how many bytes. -/
def HashR (w : World) (b : Nat) (n : List Nat) (r : List UInt8) (tot : Nat) : Prop :=
  ∃ (vr : Value) (br or qr : Nat), HashC w.heap b n vr tot (.slice (some ⟨br, or, none⟩) 64 qr) ∧ SeqTy 5 IsByte w.heap vr r ∧ CapOk vr ∧ SeqTy 81 IsU32 w.heap (.slice (some ⟨br, or, none⟩) 64 qr) SH.KL ∧ SH.Ok8 n
theorem ht_bytes : Try.prog.underlying 56 = some (.slice (Try.prog.elem 56)) := by kernel_rfl
theorem sz_byte (w : World) : (sizeOf (Try.prog.elem 56)).run Try.prog w = .ok 1 w := by kernel_rfl
theorem map_zero (ao : Option Addr) : ao.map (·.add (0 * 1)) = ao := by
  cases ao with
  | none => rfl
  | some a => obtain ⟨b, o, s⟩ := a; cases s <;> simp [Addr.add]
theorem hash_not {h : Array Obj} {bh : Nat} {H E : TypeId} (k : typH h bh = some H) (hne : H ≠ E) : ∀ b, b = bh → typH h b ≠ some E := fun b e x => by subst e; rw [k] at x; exact hne (Option.some.inj x)
theorem ok_blk' {s : List Nat} (h : SH.Ok8 s) (n : Nat) (l : List UInt8) : SH.Ok8 (SH.blk n s l) := SH.ok_blk h n l
theorem run_cut (ao : Option Addr) (n q : Nat) (h : n ≤ q) (w : World) : (Instr.slice 56 (.slice ao n q) none (some (.int .i64 (n : Int))) (some (.int .i64 (n : Int)))).run Try.prog w = .ok (.slice ao n n) w := by
  rw [run_slice_hm (P := Try.prog) w 56 ao n q ht_bytes .i64 .i64 (n : Int) (n : Int) (by omega) (by omega) (by omega), sz_byte]
  have e : (n : Int).toNat = n := by omega
  rw [e]
  show Result.ok (sliced ao 0 n n 1) w = _
  unfold sliced
  rw [map_zero, Nat.sub_zero, ite_self]
theorem run_front (a : Addr) (n q : Nat) (h : 64 ≤ q) (w : World) : (Instr.slice 56 (.slice (some a) n q) none (some (.int .i64 64)) none).run Try.prog w = .ok (.slice (some a) 64 q) w := by
  rw [run_slice_h (P := Try.prog) w 56 (some a) n q ht_bytes .i64 64 (by omega) (by omega), sz_byte]
  show Result.ok (sliced (some a) 0 64 q 1) w = _
  unfold sliced
  rw [map_zero, Nat.sub_zero, Nat.sub_zero, ite_self]
theorem run_back (b o n q : Nat) (h : 64 ≤ n) (w : World) : (Instr.slice 56 (.slice (some ⟨b, o, none⟩) n q) (some (.int .i64 64)) none none).run Try.prog w = .ok (.slice (some (if q = 64 then ⟨b, o, none⟩ else ⟨b, o + 64, none⟩)) (n - 64) (q - 64)) w := by
  rw [run_slice_l (P := Try.prog) w 56 (some ⟨b, o, none⟩) n q ht_bytes .i64 64 (by omega) (by omega), sz_byte]
  show Result.ok (sliced (some ⟨b, o, none⟩) 64 n q 1) w = _
  unfold sliced
  split
  · rfl
  · rfl
theorem SeqAt.front {α : Type} {R : Value → α → Prop} {h : Array Obj} {a : Option Addr} {n c k : Nat} {l : List α} (s : SeqAt R h (.slice a n c) l) (hk : k ≤ l.length) (c' : Nat) : SeqAt R h (.slice a k c') (l.take k) := by
  obtain ⟨a', q, e, h1, h2⟩ := s
  injection e with e1 e2 e3
  subst e1
  refine ⟨a, c', by rw [List.length_take, Nat.min_eq_left hk], by rw [List.length_take]; omega, fun i hi => ?_⟩
  rw [List.length_take] at hi
  obtain ⟨b, off, u, e4, e5, e6⟩ := h2 i (by omega)
  exact ⟨b, off, u, e4, e5, by rw [List.getElem_take]; exact e6⟩
theorem SeqAt.back {α : Type} {R : Value → α → Prop} {h : Array Obj} {b o n c k : Nat} {l : List α} (s : SeqAt R h (.slice (some ⟨b, o, none⟩) n c) l) (p : Addr) (c' : Nat) (hp : k < l.length → p = ⟨b, o + k, none⟩) : SeqAt R h (.slice (some p) (l.length - k) c') (l.drop k) := by
  obtain ⟨a', q, e, h1, h2⟩ := s
  injection e with e1 e2 e3
  subst e1
  refine ⟨some p, c', by rw [List.length_drop], by rw [List.length_drop]; omega, fun i hi => ?_⟩
  rw [List.length_drop] at hi
  obtain ⟨b', off, u, e4, e5, e6⟩ := h2 (k + i) (by omega)
  injection e4 with e4
  injection e4 with e7 e8 _
  subst e7 e8
  exact ⟨b, o + k, u, by rw [hp (by omega)], by rw [Nat.add_assoc]; exact e5, by rw [List.getElem_drop]; exact e6⟩
set_option maxRecDepth 100000 in
set_option maxHeartbeats 4000000 in
theorem take_walk (bh : Nat) (n : List Nat) (r m L : List UInt8) (tot : Nat) (vb : Value) (w : World) (hL : Hid (r ++ m = L)) (hh : HashR w bh n r tot) (hb : RowAt w.heap vb m) (hlen : r.length + m.length ≤ 140737488355328) :
    Calls Try.prog 60 #[.pointer (some ⟨bh, 0, none⟩), vb] w fun e w' => e = .returned (.tuple #[]) ∧ HashR w' bh (SH.blk (L.length / 64) n L) (L.drop (64 * (L.length / 64))) tot ∧ Chg (fun b => b = bh) w w' := by
  obtain ⟨vr, br, or, qr, hC, hR, hcap, hK, hok⟩ := hh
  obtain ⟨ar, cr, rfl⟩ := seq_shape hR.1
  obtain ⟨pb, cb, rfl⟩ := seq_shape hb
  have hcr := hcap _ _ _ rfl
  have HC := Lib.hid hC
  have HR := Lib.hid hR
  have HK := Lib.hid hK
  have HB := Lib.hid hb
  have HOK := Lib.hid hok
  have c8 : w.cell? ⟨bh, 8, none⟩ = some (.slice ar r.length cr) := by rw [cell_of]; exact hC.rest
  have HSA : Hid (SeqAt IsByte w.heap (.slice ar r.length r.length) r) := by
    obtain ⟨a, c, e, h1, h2⟩ := hR.1
    injection e with e1 _ _
    subst e1
    exact ⟨_, _, rfl, h1, h2⟩
  have hbh := hC.lt
  have HOFF : Hid (0 < r.length → ∀ p, ar = some p → typH w.heap p.block = some 5) := fun h p e => hR.2 p _ _ (by rw [e]) h
  have HTY : Hid (typH w.heap bh = some 85) := hC.typ
  clear hC hR hK hb hok hcap
  have HLN := Lib.hid hlen
  have hcut1 := run_cut ar r.length cr hcr
  go_enter Try.func60, Try.ntmps60
  go_upto_region 0 with fail
  go_cut [] (fun wz => ∃ (pv : Option Addr) (qv : Nat), L.length ≤ qv ∧ Hid (HashC wz.heap bh n (.slice pv L.length qv) tot (.slice (some ⟨br, or, none⟩) 64 qr)) ∧ Hid (SeqTy 5 IsByte wz.heap (.slice pv L.length qv) L) ∧ Hid (SeqTy 81 IsU32 wz.heap (.slice (some ⟨br, or, none⟩) 64 qr) SH.KL) ∧ Hid (Chg (fun b => b = bh) w wz))
  case first =>
    go_region_law (refine step_app_at elByte (R := IsByte) (fun u x h => by rw [h]; rfl) rfl (.tmp 19) (.tmp 20) rfl ar (by simp [Act.eval, Act.put]) HSA.out (.slice pb m.length cb) (by simp [Act.eval, Act.put]) HB.out (by have := HLN.out; omega) ?_; intro v' w6 hs6 hc6 hf6 hk6; rw [hL.out] at hs6; obtain ⟨pv, qv, rfl⟩ := seq_shape hs6; have hC6 : Hid (HashC w6.heap bh n (.slice ar r.length cr) tot (.slice (some ⟨br, or, none⟩) 64 qr)) := HashC.keeps HC.out hk6; have c6 : w6.cell? ⟨bh, 8, none⟩ = some (.slice ar r.length cr) := (by rw [cell_of]; exact hC6.out.rest); have f6 : w6.frozen? ⟨bh, 8, none⟩ = false := (by rw [froz_of]; exact hC6.out.free 8); have HS6 := Lib.hid hs6; have HCP6 := Lib.hid hc6; have HF6 := Lib.hid hf6; have HK6 := Lib.hid hk6; clear hs6 hc6 hf6 hk6)
    all_goals
      go_wp2_with fail
      go_meet
      have h1 : Chg (fun b => b = bh) w w6 := Kept.any HK6.out
      have h6 : Chg (fun x => x = bh) w6 (w6.setCell ⟨bh, 8, none⟩ (.slice pv L.length qv)) := Chg.setCell (T := fun x => x = bh) (a := w6) (Chg.refl _ w6) (p := ⟨bh, 8, none⟩) (fun _ => rfl) _
      have HS : SeqTy 5 IsByte w6.heap (.slice pv L.length qv) L := SeqTy.new HS6.out HF6.out fun h p e => typH_chg (T := fun _ => False) (Kept.any HK6.out) (HOFF.out h p e) fun x => x
      exact ⟨pv, qv, HCP6.out _ _ _ rfl, hC6.out.setRest _, HS.chg h6 (hash_not hC6.out.typ (by decide)), (HK.out.keeps HK6.out).chg h6 (hash_not hC6.out.typ (by decide)), h1.trans h6⟩
  case rest =>
    obtain ⟨pv, qv, hqv, HCZ, HSZ, HKZ, HCH⟩ := hcut
    clear HC HR HK HB HSA HOFF c8 hcut1 hcr
    have hL63 : L.length ≤ 140737488355328 := by
      have h1 := congrArg List.length hL.out
      rw [List.length_append] at h1
      have := HLN.out; omega
    go_wp2_with fail
    go_loopg [] L.length (fun g wr => ∃ (j : Nat) (D : List UInt8) (pv : Option Addr) (qv : Nat), Hid (D = L.drop (64 * j) ∧ 64 * j ≤ L.length) ∧ g = D.length ∧ D.length ≤ qv ∧ Hid (HashC wr.heap bh (SH.blk j n L) (.slice pv D.length qv) tot (.slice (some ⟨br, or, none⟩) 64 qr)) ∧ Hid (SeqTy 5 IsByte wr.heap (.slice pv D.length qv) D) ∧ Hid (SeqTy 81 IsU32 wr.heap (.slice (some ⟨br, or, none⟩) 64 qr) SH.KL) ∧ Hid (Chg (fun b => b = bh) w wr))
    case atStart => exact ⟨0, L, pv, qv, ⟨rfl, by omega⟩, rfl, by omega, HCZ, HSZ, HKZ, HCH⟩
    case round =>
      clear HCZ HSZ HKZ HCH hqv
      obtain ⟨j, D, pv, qv, hDj, rfl, hq, hC, hS, hK, hD⟩ := hrel
      have c8 : wr.cell? ⟨bh, 8, none⟩ = some (.slice pv D.length qv) := by rw [cell_of]; exact hC.out.rest
      have hDL : D.length ≤ L.length := by rw [hDj.out.1, List.length_drop]; omega
      by_cases hlt : 64 ≤ D.length
      · have i1 : decide (64 ≤ D.length) = true := decide_eq_true hlt
        have i2 : decide ((64 : Int) ≤ ((D.length : Nat) : Int)) = true := decide_eq_true (by omega)
        obtain ⟨b0, o0, rfl⟩ : ∃ b0 o0, pv = some ⟨b0, o0, none⟩ := by
          obtain ⟨b0, o0, c0, u0, e0, _⟩ := seq_cell hS.out.1 (i := 0) (by omega)
          injection e0 with e1 _ _
          exact ⟨b0, o0, e1⟩
        have HB0 : Hid (typH wr.heap b0 = some 5) := hS.out.2 _ _ _ rfl (by omega)
        have hfr := run_front ⟨b0, o0, none⟩ D.length qv (by omega)
        have HRW : Hid (RowAt wr.heap (.slice (some ⟨b0, o0, none⟩) 64 qv) (D.take 64)) := hS.out.1.front (by omega) qv
        have HOKJ : Hid (SH.Ok8 (SH.blk j n L)) := ok_blk' HOK.out j L
        have HTL : Hid ((D.take 64).length = 64) := by show _ = _; rw [List.length_take]; omega
        go_wp2_with fail
        refine Calls.mono (change_any bh b0 o0 qv (SH.blk j n L) (.slice (some ⟨b0, o0, none⟩) D.length qv) tot br or qr (D.take 64) _ HTL.out HRW.out hC.out HOKJ.out hK.out.1) ?_
        rintro e w5 ⟨rfl, hC5, hD5⟩
        have HC5 := Lib.hid hC5
        have HD5 := Lib.hid hD5
        have HS5 := Lib.hid (hS.out.chg hD5 (hash_not hC.out.typ (by decide)))
        have HK5 := Lib.hid (hK.out.chg hD5 (hash_not hC.out.typ (by decide)))
        have HDW := Lib.hid (hD.out.trans hD5)
        have hbk := run_back b0 o0 D.length qv (by omega)
        have c5 : w5.cell? ⟨bh, 8, none⟩ = some (.slice (some ⟨b0, o0, none⟩) D.length qv) := by rw [cell_of]; exact HC5.out.rest
        have f5 : w5.frozen? ⟨bh, 8, none⟩ = false := by rw [froz_of]; exact HC5.out.free 8
        have HN : Hid (D.length - 64 = (D.drop 64).length) := by show _ = _; rw [List.length_drop]
        have hN1 : (D.drop 64).length < D.length := by rw [List.length_drop]; omega
        have hN2 : (D.drop 64).length ≤ qv - 64 := by rw [List.length_drop]; omega
        have HSB : Hid (SeqTy 5 IsByte w5.heap (.slice (some (if qv = 64 then ⟨b0, o0, none⟩ else ⟨b0, o0 + 64, none⟩)) (D.drop 64).length (qv - 64)) (D.drop 64)) := by
          have h1 := HS5.out.1.back (k := 64) (if qv = 64 then ⟨b0, o0, none⟩ else ⟨b0, o0 + 64, none⟩) (qv - 64) (fun h => if_neg (by omega))
          rw [← List.length_drop] at h1
          exact ⟨h1, fun p n q e _ => by injection e with e _ _; injection e with e; rw [← e]; have h5 := HS5.out.2 _ _ _ rfl (by omega); split <;> exact h5⟩
        have HDJ : Hid (D.drop 64 = L.drop (64 * (j + 1)) ∧ 64 * (j + 1) ≤ L.length) := by
          obtain ⟨h1, h2⟩ := hDj.out
          refine ⟨by rw [h1, List.drop_drop, Nat.mul_succ], ?_⟩
          rw [h1, List.length_drop] at hlt; omega
        have HB1 : Hid (SH.blk (j + 1) n L = SH.chgS (SH.blk j n L) (D.take 64)) := by show _ = _; rw [hDj.out.1]; rfl
        rw [HN.out] at hbk
        generalize (some (if qv = 64 then ⟨b0, o0, none⟩ else ⟨b0, o0 + 64, none⟩) : Option Addr) = pn at *
        have HRB := Lib.hid HC5.out
        clear hC5 hD5 hC hS hK hD hfr HRW HTL HOKJ HS5 HN
        generalize D.drop 64 = D2 at *
        go_wp2_with fail
        go_roundg D2.length
        case rel => exact ⟨j + 1, D2, pn, qv - 64, HDJ, rfl, hN2, by rw [HB1.out]; exact HC5.out.setRest _, HSB.out.chg (Chg.setCell (T := fun x => x = bh) (a := w5) (Chg.refl _ w5) (p := ⟨bh, 8, none⟩) (fun _ => rfl) _) (hash_not HC5.out.typ (by decide)), HK5.out.chg (Chg.setCell (T := fun x => x = bh) (a := w5) (Chg.refl _ w5) (p := ⟨bh, 8, none⟩) (fun _ => rfl) _) (hash_not HC5.out.typ (by decide)), Chg.setCell HDW.out (p := ⟨bh, 8, none⟩) (fun _ => rfl) _⟩
        case measure => exact hN1
      · have i1 : decide (64 ≤ D.length) = false := decide_eq_false hlt
        have i2 : decide ((64 : Int) ≤ ((D.length : Nat) : Int)) = false := decide_eq_false (by omega)
        have hj : j = L.length / 64 := by
          obtain ⟨h1, h2⟩ := hDj.out
          rw [h1, List.length_drop] at hlt; omega
        have HF : Hid (HashR wr bh (SH.blk (L.length / 64) n L) (L.drop (64 * (L.length / 64))) tot) := by
          rw [← hj, ← hDj.out.1]
          exact ⟨_, br, or, qr, hC.out, hS.out, capOk_mk hq, hK.out, ok_blk' HOK.out j L⟩
        clear hj hC hS hK hDj
        go_wp2
        go_end0
        exact ⟨rfl, HF.out, hD.out⟩
theorem take_any (bh : Nat) (n : List Nat) (r m : List UInt8) (tot : Nat) (vb : Value) (w : World) (hh : HashR w bh n r tot) (hb : RowAt w.heap vb m) (hlen : r.length + m.length ≤ 140737488355328) :
    Calls Try.prog 60 #[.pointer (some ⟨bh, 0, none⟩), vb] w fun e w' => e = .returned (.tuple #[]) ∧ HashR w' bh (SH.blk ((r ++ m).length / 64) n (r ++ m)) ((r ++ m).drop (64 * ((r ++ m).length / 64))) tot ∧ Chg (fun b => b = bh) w w' :=
  take_walk bh n r m _ tot vb w (Lib.hid rfl) hh hb hlen
end Go.Proofs.Yteandjophamipaa
