/- The walk of the reference's Encode. -/
import Derived.Test.YtllfhaocdknejaaDoorCodeEn
import Derived.Lib.AppendStr
namespace Go.Proofs.YtllfhaocdknejaaDoor
open Go.RowKit
attribute [local go_sem ↓] Go.wp_at_zero Go.wp_at_succ
theorem own_lit (w : World) (base : Nat) (e : TypeId) (l : List Value) (hb : base ≤ w.heap.size) (hl : l.length ≤ 140737488351232) : (w.alloc (.cells ⟨l⟩ e)).ownsRow base e 1 (.slice (some ⟨w.heap.size, 0, none⟩) l.length l.length) l.length l :=
  ⟨by simp, .inr ⟨w.heap.size, l.length, ⟨l⟩, rfl, hb, by unfold World.alloc; simp, Nat.le_refl _, by unfold maxLen; omega, by simp, by simp⟩⟩
theorem str_cells (s : ByteArray) : Lib.strCells s = bytesV s.data.toList := rfl
/-- 'append(b, s...)' of a text onto a row of bytes of the call's own. -/
theorem wp_app_text {ops : Array Oper} {rest : List Oper} {o : Oper} {a : Act} {w : World} {Q : Exit → Act → World → Prop} (hgd : o.guard = none) (sl x : Operand) (ho : o.op = .call { callee := .builtin .append, args := #[sl, x], argTypes := #[39, 9] })
    (base : Nat) (v : Value) (L : List UInt8) (hs : a.eval sl = v) (hown : w.ownsRow base 5 1 v L.length (bytesV L)) (s : ByteArray) (hx : a.eval x = .string s) (hlen : L.length + s.size ≤ 140737488351232) (hbase : base ≤ w.heap.size)
    (h : ∀ v' w', w'.ownsRow base 5 1 v' (L.length + s.size) (bytesV (L ++ s.data.toList)) → Chg (fun k => v.ownBlock = some k) w w' → wpList Tryd.prog ops Q rest (a.put o.dst v') w') : wpList Tryd.prog ops Q (o :: rest) a w := by
  obtain ⟨i, h2, h3, h4, h5⟩ := info_parts elByte.hi
  refine Lib.wpList_append_own_string w hgd sl x 39 9 ho base 5 i Tryd.underlying39 Tryd.underlying9 h2 h3 h4 h5 v L.length (bytesV L) hs hown s hx (by unfold maxLen; omega) (by omega) hbase ?_
  intro v' w' h6 h7 _
  rw [str_cells] at h6
  have e : bytesV L ++ bytesV s.data.toList = bytesV (L ++ s.data.toList) := by unfold bytesV; rw [List.map_append]
  rw [e] at h6
  exact h v' w' h6 ((Chg.refl _ w).grown h7 fun k hk _ => hk)
def lenV : Value → Nat
  | .slice _ n _ => n
  | _ => 0
theorem head_cells (m : Nat) (hm : m ≤ 32768) : (#[.int .u8 0, .int .u8 0, .int .u8 0, .int .u8 0, .int .u8 0, .int .u8 ((m : Int) / 65536), .int .u8 ((m : Int) / 256 % 256), .int .u8 ((m : Int) % 256)] : Array Value) = ⟨bytesV (head8 m)⟩ := by
  have e1 : ((m : Int) / 65536) = ((UInt8.ofNat (m / 65536)).toNat : Int) := by rw [UInt8.toNat_ofNat']; omega
  have e2 : ((m : Int) / 256 % 256) = ((UInt8.ofNat (m / 256)).toNat : Int) := by rw [UInt8.toNat_ofNat']; omega
  have e3 : ((m : Int) % 256) = ((UInt8.ofNat m).toNat : Int) := by rw [UInt8.toNat_ofNat']; omega
  rw [e1, e2, e3]; rfl
theorem head_own (w : World) (m : Nat) (hm : m ≤ 32768) : (w.alloc (.cells #[.int .u8 0, .int .u8 0, .int .u8 0, .int .u8 0, .int .u8 0, .int .u8 ((m : Int) / 65536), .int .u8 ((m : Int) / 256 % 256), .int .u8 ((m : Int) % 256)] 5)).ownsRow w.heap.size 5 1 (.slice (some ⟨w.heap.size, 0, none⟩) 8 8) (head8 m).length (bytesV (head8 m)) := by
  rw [head_cells m hm]
  exact own_lit w w.heap.size 5 (bytesV (head8 m)) (Nat.le_refl _) (by rw [bytesV_length, head8_length]; omega)
theorem spr_at {m l : List (List UInt8)} {s k : Nat} (h : k < m.length) : ((sprM m l s).take (k + 1)).map strB = ((sprM m l s).take k).map strB ++ [strB ((List.range s).map (parS m l k l.length))] := by
  rw [take_snocM (by rw [sprM_len]; exact h)]
  congr 3
  unfold sprM matOf
  rw [List.getElem_map, List.getElem_range]; rfl
theorem bytes_row {w : World} {base : Nat} {v : Value} {L : List UInt8} {n : Nat} (h : w.ownsRow base 5 1 v n (bytesV L)) (hn : L.length = n) (hl : L.length ≤ 9223372036854775807) : RowAt w.heap v L := by
  subst hn
  exact SeqIn.at_ ((bytesV_seq (by rw [bytesV_length]; exact h)).seq hl)
theorem tzq_lt {tz sz q S tq : Nat} (e : tq = tz + q) (h : tz + sz ≤ S) (hq : q < sz) (hS : S ≤ 40000) : tq < S ∧ wrap64 ((tz : Int) + (q : Int)) = (tq : Int) := ⟨by omega, by rw [IntWalk.wrap64_in _ (by omega)]; omega⟩
theorem tz_le {tz sz S : Nat} (h : tz + sz ≤ S) (hS : S ≤ 40000) : wrap64 (tz : Int) = (tz : Int) := IntWalk.wrap64_in _ (by omega)
theorem q_succ {q sz : Nat} (h : q < sz) (hs : sz ≤ 32776) : wrap64 ((q : Int) + 1) = (q : Int) + 1 := IntWalk.wrap64_in _ (by omega)
theorem dec_of {q sz a b : Nat} (h : q < sz) (ha : a = sz - (q + 1)) (hb : b = sz - q) : a < b := by omega
theorem dec_one {q sz : Nat} (h : q < sz) : 0 < sz - q := by omega
theorem al_keeps {w3 wo wi : World} {o : Obj} (h : Keeps w3 wo) (c : Chg (fun x => x = wo.heap.size) (wo.alloc o) wi) : Keeps w3 wi :=
  ((h.chg.alloc o).trans (c.mono fun x _ e => by have := h.size; omega)).keeps fun x hx e => by omega
set_option maxRecDepth 100000 in
set_option maxHeartbeats 4000000 in
theorem rencode_any (k n : Int) (s : ByteArray) (w : World) (hs : s.size ≤ 9223372036854775807) :
    Calls Tryd.prog 22 #[.agg #[.int .i64 k, .int .i64 n], .string s] w fun e w' => ∃ v, e = .returned (.tuple #[v, .int .i64 (encC k n s.data.toList).2]) ∧ SeqIn (w.heap.size ≤ ·) 9 IsText w'.heap v (encC k n s.data.toList).1 ∧ Keeps w w' := by
  have HDL : Hid (s.data.toList.length = s.size) := data_size s
  cases hb : codeB k n with
  | false =>
    have HE : Hid (encC k n s.data.toList = ([], 1)) := by show _ = _; unfold encC; rw [hb]; rfl
    have HS := Lib.hid (sizeC_bad (len := (s.size : Int)) hb)
    rw [HE.out]
    clear hb
    go_enter Tryd.func22, Tryd.ntmps22
    go_wp2_with fail
    refine Calls.mono (rsize_any _ _ _ _ (by omega) (by omega)) ?_
    rintro e w1 ⟨rfl, hk1⟩
    rw [HS.out]
    go_wp2
    go_ret2
    exact ⟨_, rfl, SeqIn.nil _ _ _ _, (kal w _).trans hk1⟩
  | true =>
    obtain ⟨h1, h3, h4⟩ := codeB_true.1 hb
    by_cases hbig : 32768 < s.size
    · have HE : Hid (encC k n s.data.toList = ([], 40)) := by show _ = _; unfold encC; rw [hb, HDL.out, if_pos hbig]; rfl
      have HS := Lib.hid (sizeC_big (len := (s.size : Int)) hb (by omega))
      rw [HE.out]
      clear hb
      go_enter Tryd.func22, Tryd.ntmps22
      go_wp2_with fail
      refine Calls.mono (rsize_any _ _ _ _ (by omega) (by omega)) ?_
      rintro e w1 ⟨rfl, hk1⟩
      rw [HS.out]
      go_wp2
      go_ret2
      exact ⟨_, rfl, SeqIn.nil _ _ _ _, (kal w _).trans hk1⟩
    · obtain ⟨K, rfl⟩ := Int.eq_ofNat_of_zero_le (show 0 ≤ k by omega)
      obtain ⟨N, rfl⟩ := Int.eq_ofNat_of_zero_le (show 0 ≤ n by omega)
      have hK : 1 ≤ K ∧ K ≤ 12 := by omega
      have hsm : s.size ≤ 32768 := by omega
      have HE : Hid (encC (K : Int) (N : Int) s.data.toList = ((sprM (matOf N K (codeAt K)) (dataC K s.data.toList) (sizeN K s.size)).map strB, 0)) := by
        show _ = _
        unfold encC encM
        rw [hb, HDL.out, if_pos rfl, if_neg hbig, Int.toNat_natCast, Int.toNat_natCast]
      have HS := Lib.hid (sizeC_yes (K := K) (m := s.size) hb hsm)
      have HB := Lib.hid hb
      have HOF : Hid (ofM (K : Int) (N : Int) = (matOf N K (codeAt K), 0)) := by show _ = _; unfold ofM; rw [HB.out]; rfl
      have HSL := Lib.hid (sizeN_le (m := s.size) hK.1)
      have HT := Lib.hid (sizeN_mul (m := s.size) hK.1)
      have HW : Hid (wholeB K s.data.toList = head8 s.size ++ s.data.toList ++ List.replicate (sizeN K s.size * K - (8 + s.size)) 0) := by show _ = _; unfold wholeB; rw [HDL.out]
      have HDA : Hid (∀ t q, t < K → q < sizeN K s.size → LA.at_ (dataC K s.data.toList) t q = (wholeB K s.data.toList).getD (t * sizeN K s.size + q) 0) := fun t q ht hq => by
        have := dataC_at (K := K) (d := s.data.toList) ht (b := q) (by rw [HDL.out]; exact hq)
        rw [HDL.out] at this; exact this
      have HDN : Hid ((dataC K s.data.toList).length = K) := dataC_length _ _
      have HM : Hid ((matOf N K (codeAt K)).length = N ∧ ∀ r ∈ matOf N K (codeAt K), r.length = K) := ⟨matOf_len _ _ _, matOf_row⟩
      rw [HE.out]
      have HC0 : Hid (∀ wx, Keeps (w.alloc (.cells #[.int .i64 (K : Int), .int .i64 (N : Int)] 23)) wx → wx.cell? ⟨w.heap.size, 0, none⟩ = some (.int .i64 (K : Int)) ∧ wx.cell? ⟨w.heap.size, 1, none⟩ = some (.int .i64 (N : Int))) := fun wx hx => ⟨keeps_cell hx (World.cell?_alloc_new _ _ _ _), keeps_cell hx (World.cell?_alloc_new _ _ _ _)⟩
      clear hb hbig
      go_enter Tryd.func22, Tryd.ntmps22
      go_wp2_with fail
      refine Calls.mono (rsize_any _ _ _ _ (by omega) (by omega)) ?_
      rintro e wa ⟨rfl, hk1⟩
      rw [HS.out]
      have HKA := Lib.hid hk1
      have hza : w.heap.size + 1 ≤ wa.heap.size := by have := hk1.size; simpa using this
      clear hk1
      generalize hsz : sizeN K s.size = sz at *
      have HSZQ := Lib.hid hsz
      clear hsz
      have hm0 : (0 : Int) ≤ (s.size : Int) := by omega
      have hm1 : (s.size : Int) ≤ 32768 := by omega
      have HOWN := Lib.hid (head_own wa s.size hsm)
      go_wp2_with (at_builtin; refine wp_app_text rfl (.tmp 40) (.tmp 41) rfl wa.heap.size (.slice (some ⟨wa.heap.size, 0, none⟩) 8 8) (head8 s.size) rfl HOWN.out s rfl (by rw [head8_length]; omega) (by simp) ?_; intro v6 w6 hown hchg; have HO6 : Hid (w6.ownsRow wa.heap.size 5 1 v6 (8 + s.size) (bytesV (head8 s.size ++ s.data.toList))) := hown; obtain ⟨p6, q6, rfl⟩ := own_slice HO6.out; have HK6 : Hid (Keeps wa w6) := (kal wa _).then (chg_kept (B := wa.heap.size) hchg (fun q _ e => (own_block HOWN.out q e).1) (by simp)) (Nat.le_refl _); clear hown hchg)
      obtain ⟨S, hS⟩ : ∃ S, S = sz * K := ⟨_, rfl⟩
      rw [← hS] at HT HW
      have HSS := Lib.hid hS
      have hSb : 8 + s.size ≤ S := HT.out.1
      have hSb2 : S ≤ 40000 := by have := HT.out.2; omega
      have hw0 : wrap64 ((sz : Int) * (K : Int)) = (S : Int) := by rw [hS, Int.natCast_mul]; exact IntWalk.wrap64_in _ (by rw [← Int.natCast_mul, ← hS]; omega)
      clear hS HOWN
      go_loopw [8] (fun v wr => ∃ q : Nat, 8 + s.size + q ≤ S ∧ (∃ pv qv, v = .slice pv (8 + s.size + q) qv) ∧ Hid (wr.ownsRow wa.heap.size 5 1 v (8 + s.size + q) (bytesV (head8 s.size ++ s.data.toList ++ List.replicate q 0))) ∧ Hid (Keeps wa wr)) (fun v _ => S - lenV v)
      case atStart => exact ⟨0, by omega, ⟨_, _, rfl⟩, by rw [List.replicate_zero, List.append_nil]; exact HO6, HK6⟩
      case round =>
        clear HO6 HK6
        obtain ⟨q, hq, ⟨pv, qv, rfl⟩, hO, hK0⟩ := hrel
        have c0 := (HC0.out wr (HKA.out.trans hK0.out)).1
        by_cases hlt : 8 + s.size + q < S
        · have hlt64 : ((8 + s.size + q : Nat) : Int) < (S : Int) := by omega
          have HRP : Hid (bytesV (head8 s.size ++ s.data.toList ++ List.replicate q 0) ++ [.int .u8 0] = bytesV (head8 s.size ++ s.data.toList ++ List.replicate (q + 1) 0)) := by
            show _ = _
            rw [List.replicate_succ']; unfold bytesV; rw [← List.append_assoc, List.map_append (l₂ := [0])]; rfl
          have HBL : Hid ((bytesV (head8 s.size ++ s.data.toList ++ List.replicate q 0)).length = 8 + s.size + q) := by
            show _ = _
            rw [bytesV_length, List.length_append, List.length_append, head8_length, HDL.out, List.length_replicate]
          generalize bytesV (head8 s.size ++ s.data.toList ++ List.replicate q 0) = us at *
          have HU : Hid (wr.ownsRow wa.heap.size 5 1 (.slice pv (8 + s.size + q) qv) us.length us) := by rw [HBL.out]; exact hO
          have hzz := hK0.out.size
          go_wp2_with (at_builtin; refine wp_app1 elByte rfl (.tmp 50) (.tmp 51) rfl wa.heap.size (.slice pv (8 + s.size + q) qv) us rfl (HU.out.alloc _) _ (.int .u8 0) rfl (World.cell?_alloc_new _ _ _ _) rfl (by have := HBL.out; omega) (by simp; omega) ?_; intro v' w7 hown hchg; rw [HRP.out, HBL.out] at hown; have HO7 : Hid (w7.ownsRow wa.heap.size 5 1 v' (8 + s.size + (q + 1)) (bytesV (head8 s.size ++ s.data.toList ++ List.replicate (q + 1) 0))) := hown; have HK7 : Hid (Keeps wa w7) := hK0.out.then (chg_kept (B := wa.heap.size) (Chg.trans (Kept.any (kal wr _)) hchg) (fun z _ e => (own_block HU.out z e).1) hK0.out.size) (Nat.le_refl _); obtain ⟨p7, q7, rfl⟩ := own_slice HO7.out; clear hown hchg)
          exact ⟨⟨q + 1, by omega, ⟨_, _, rfl⟩, HO7, HK7⟩, by simp only [lenV]; omega⟩
        · have hqe : q = S - (8 + s.size) := by omega
          have HRW : Hid (RowAt wr.heap (.slice pv (8 + s.size + q) qv) (wholeB K s.data.toList)) := by
            show RowAt _ _ _
            rw [HW.out, ← hqe]
            exact bytes_row hO.out (by rw [List.length_append, List.length_append, head8_length, HDL.out, List.length_replicate]) (by rw [List.length_append, List.length_append, head8_length, HDL.out, List.length_replicate]; omega)
          have hSe : 8 + s.size + q = S := by omega
          have HWL : Hid ((wholeB K s.data.toList).length = S) := by
            show _ = _
            rw [HW.out, List.length_append, List.length_append, head8_length, HDL.out, List.length_replicate]; omega
          rw [hSe] at HRW ⊢
          clear hqe hSe hO hq hlt
          generalize wholeB K s.data.toList = W at *
          have c1 := (HC0.out wr (HKA.out.trans hK0.out)).2
          go_wp2_with fail
          refine Calls.mono (refof_any (K : Int) (N : Int) _) ?_
          rintro e w3 ⟨vm, rfl, hm, hk3⟩
          rw [HOF.out] at hm ⊢
          have HMM := Lib.hid hm.at_
          have HKC : Hid (Keeps (w.alloc (.cells #[.int .i64 (K : Int), .int .i64 (N : Int)] 23)) w3) := (HKA.out.trans hK0.out).trans hk3
          have HR3 : Hid (RowAt w3.heap (.slice pv S qv) W) := SeqAt.keeps HRW.out hk3
          obtain ⟨pm, qm, rfl⟩ := seq_shape hm.at_
          clear hm hk3 c0 c1 hK0 HRW
          generalize hMD : matOf N K (codeAt K) = m at *
          generalize hLD : dataC K s.data.toList = l at *
          have HMD := Lib.hid hMD
          have HLD := Lib.hid hLD
          have hmk2 := mk_rowL sz (by have := HSL.out; omega)
          have hszb : sz ≤ 32776 := by have := HSL.out; omega
          have hmN : m.length ≤ 12 := by have := HM.out.1; omega
          clear hMD hLD hw0
          go_wp2_with fail
          go_loopw [11, 12] (fun v i wr => ∃ k : Nat, k ≤ N ∧ i = .int .i64 k ∧ Hid (OwnSeq w3.heap.size 9 IsText wr v (((sprM m l sz).take k).map strB)) ∧ Hid (Keeps w3 wr)) (fun _ i _ => N - (intOf i).toNat)
          case atStart => exact ⟨0, by omega, rfl, OwnSeq.nil _ _ _ _, keeps_refl w3⟩
          case round =>
            obtain ⟨k, hk, rfl, hR, hK1⟩ := hrel
            obtain ⟨wo, rfl⟩ : ∃ wo : World, wo = wr := ⟨_, rfl⟩
            have c1 := (HC0.out wo (HKC.out.trans hK1.out)).2
            by_cases hlt : k < N
            · as_aux_lemma =>
              have hlt64 : (k : Int) < (N : Int) := by omega
              have hk0 : (0 : Int) ≤ (k : Int) := by omega
              have hlm : k < m.length := by rw [HM.out.1]; exact hlt
              obtain ⟨us, hu1, hu2, hu3⟩ := hR.out
              have hul : us.length = k := by rw [hu2, List.length_map, List.length_take, sprM_len, HM.out.1]; omega
              obtain ⟨pt, qt, rfl⟩ := own_slice hu1
              have HU := Lib.hid hu1
              have HL2 := Lib.hid hu2
              have HL3 := Lib.hid hul
              have H3 := Lib.hid hu3
              have HSA : Hid (((sprM m l sz).take (k + 1)).map strB = ((sprM m l sz).take k).map strB ++ [strB ((List.range sz).map (parS m l k K))]) := by
                have := spr_at (l := l) (s := sz) hlm
                rw [HDN.out] at this; exact this
              obtain ⟨bm, om, pr, qr, rfl, d0, r0⟩ := mat_rowP HMM.out hlm HM.out.2
              have HD0 := Lib.hid d0
              have HR0 := Lib.hid r0
              have HML : Hid (m[k].length = K) := HM.out.2 _ (List.getElem_mem hlm)
              have HAT : Hid (∀ t (h : t < K), LA.at_ m k t = m[k][t]'(by rw [HML.out]; exact h)) := fun t h => at_get hlm _
              clear hu1 hu2 hu3 hul d0 r0 hR
              go_wp2_with fail
              clear hmk2 c1
              go_loopw [14] (fun j wr => ∃ t : Nat, t ≤ K ∧ j = .int .i64 t ∧ Hid (RowF wr.heap wo.heap.size sz (parS m l k t)) ∧ Hid (Chg (fun x => x = wo.heap.size) (wo.alloc (.cells (reps sz (.int .u8 0)) 5)) wr)) (fun j _ => K - (intOf j).toNat)
              case atStart => exact ⟨0, by omega, rfl, RowF.new wo sz, Chg.refl _ _⟩
              case round =>
                obtain ⟨t, ht, rfl, hF, hC⟩ := hrel
                obtain ⟨wi, rfl⟩ : ∃ wi : World, wi = wr := ⟨_, rfl⟩
                have HKI : Hid (Keeps w3 wi) := al_keeps hK1.out hC.out
                have c0 := (HC0.out wi (HKC.out.trans HKI.out)).1
                by_cases htl : t < K
                · as_aux_lemma =>
                  have ht64 : (t : Int) < (K : Int) := by omega
                  have ht0 : (0 : Int) ≤ (t : Int) := by omega
                  obtain ⟨br, orr, rfl, e0⟩ := row_byteP HR0.out (i := t) (by rw [HML.out]; exact htl)
                  rw [← HAT.out t htl] at e0
                  have HE0 := Lib.hid e0
                  have HPS := Lib.hid (fun q => parS_succ m l k t q)
                  have HSK := Lib.hid (fun h q => parS_skip (m := m) (l := l) (i := k) (j := t) h q)
                  have htz : t * sz + sz ≤ S := by
                    have h1 : (t + 1) * sz ≤ K * sz := Nat.mul_le_mul_right _ htl
                    rw [Nat.add_mul, Nat.mul_comm K, ← HSS.out] at h1
                    omega
                  have HTZ : Hid ((t : Int) * (sz : Int) = ((t * sz : Nat) : Int)) := (Int.natCast_mul t sz).symm
                  have HDT : Hid (∀ q, q < sz → LA.at_ l t q = W.getD (t * sz + q) 0) := fun q hq => HDA.out t q htl hq
                  clear e0
                  generalize LA.at_ m k t = x at *
                  generalize t * sz = tz at *
                  go_wp2_with fail
                  clear c0
                  go_loopw [15] (fun b wr => ∃ q : Nat, q ≤ sz ∧ b = .int .i64 q ∧ (x = 0 → q = 0) ∧ Hid (RowF wr.heap wo.heap.size sz (fun z => if z < q then parS m l k (t + 1) z else parS m l k t z)) ∧ Hid (Chg (fun x => x = wo.heap.size) (wo.alloc (.cells (reps sz (.int .u8 0)) 5)) wr)) (fun b _ => sz - (intOf b).toNat)
                  case atStart => exact ⟨0, by omega, rfl, fun _ => rfl, hF.out.congr fun z _ => by (try dsimp only); rw [if_neg (by omega)], hC⟩
                  case round =>
                    obtain ⟨q, hq, rfl, hxq, hF2, hC2⟩ := hrel
                    have HKQ : Hid (Keeps w3 wr) := al_keeps hK1.out hC2.out
                    have HXQ := Lib.hid hxq
                    clear hxq
                    by_cases hql : q < sz
                    · have hq64 : (q : Int) < (sz : Int) := by omega
                      have hq0 : (0 : Int) ≤ (q : Int) := by omega
                      have d1 := keeps_cell HKQ.out HD0.out
                      have e1 := keeps_cell HKQ.out HE0.out
                      by_cases hx0 : x = 0
                      · as_aux_lemma =>
                        have hqz := HXQ.out hx0
                        subst hx0 hqz
                        have HFN : Hid (RowF wr.heap wo.heap.size sz (parS m l k (t + 1))) := hF2.out.congr fun z _ => by (try dsimp only); rw [if_neg (by omega)]; exact (HSK.out rfl z).symm
                        clear HSK HPS hF2
                        go_wp2_with fail
                        exact ⟨⟨t + 1, by omega, by go_num, HFN, hC2⟩, by simp [intOf]; omega⟩
                      · as_aux_lemma =>
                        have hxn : x.toNat ≠ 0 := fun e => hx0 (UInt8.toNat_inj.1 e)
                        have b0 : ((x.toNat : Int) != 0) = true := by rw [bne_iff_ne]; omega
                        have b1 : (x.toNat != 0) = true := by rw [bne_iff_ne]; exact hxn
                        have b2 : (x != 0) = true := by rw [bne_iff_ne]; exact hx0
                        have HXN := Lib.hid hx0
                        obtain ⟨tq, htq⟩ : ∃ tq, tq = tz + q := ⟨_, rfl⟩
                        obtain ⟨htq2, hws⟩ := tzq_lt htq htz hql hSb2
                        have htq3 : (tq : Int) < (S : Int) := Int.ofNat_lt.2 htq2
                        obtain ⟨bw, ow, rfl, e3⟩ := row_byteP (SeqAt.keeps HR3.out HKQ.out) (i := tq) (by rw [HWL.out]; exact htq2)
                        have HGW : Hid (W[tq]'(by rw [HWL.out]; exact htq2) = LA.at_ l t q) := by
                          show _ = _
                          rw [HDT.out q hql, ← htq, List.getD_eq_getElem?_getD, List.getElem?_eq_getElem (by rw [HWL.out]; exact htq2)]; rfl
                        rw [HGW.out] at e3
                        obtain ⟨f0, c0⟩ := hF2.out.2 q hql
                        rw [← froz_of] at f0
                        rw [← cell_of] at c0
                        dsimp only at c0
                        rw [if_neg (by omega)] at c0
                        have HN : Hid (∀ y : UInt8, parS m l k t q ^^^ LA.mul x (LA.at_ l t q) = y → RowF (wr.setCell ⟨wo.heap.size, q, none⟩ (.int .u8 (y.toNat : Int))).heap wo.heap.size sz (fun z => if z < q + 1 then parS m l k (t + 1) z else parS m l k t z)) := fun y hy =>
                          (hF2.out.set hql y).congr fun z hz => by
                            (try dsimp only)
                            by_cases e : z = q
                            · subst e; rw [if_pos rfl, if_pos (by omega), HPS.out, hy]
                            · rw [if_neg e]
                              by_cases e2 : z < q
                              · rw [if_pos e2, if_pos (by omega)]
                              · rw [if_neg e2, if_neg (by omega)]
                        have hwz : wrap64 ((t : Int) * (sz : Int)) = (tz : Int) := by rw [HTZ.out]; exact tz_le htz hSb2
                        clear hxn hx0 HGW htq
                        generalize parS m l k t q = y0 at *
                        generalize LA.at_ l t q = z at *
                        have hx := gxor y0 (LA.mul x z)
                        go_wp2_with fail
                        clear b0 b1 b2
                        as_aux_lemma =>
                          refine wp_region_tail (List.dropLast _) (List.getLast _ (List.cons_ne_nil _ _)) (List.dropLast_concat_getLast _).symm (by kernel_rfl) (by kernel_rfl) (by kernel_rfl) (by kernel_rfl) rfl (by kernel_rfl) ?_; simp only [List.dropLast_cons_cons, List.dropLast_singleton, List.getLast_cons_cons, List.getLast_singleton]; (repeat (go_big_quiet_step ((go_at_call 21; refine Calls.mono (grefmul _ _ _) ?_; rintro e w' ⟨rfl, rfl⟩; exact ⟨rfl, _, rfl⟩)))); refine wpQuiet_nil ?_; intro _ hw1; obtain ⟨nq, hw2⟩ := hw1; subst hw2
                          have hq1 : wrap64 ((q : Int) + 1) = (q : Int) + 1 := q_succ hql hszb
                          clear hws hwz hx e1 d1 e3 htq2 htq3
                          go_wp2_with fail
                          exact ⟨⟨q + 1, hql, by go_num, fun h => absurd h HXN.out, HN.out _ rfl, Chg.setCell (T := fun x => x = wo.heap.size) hC2.out (fun _ => rfl) _⟩, by first | exact dec_of hql rfl rfl | (rw [hq1]; exact dec_of hql rfl rfl) | (simp [intOf]; exact dec_of hql rfl rfl) | (simp [intOf]; exact dec_one hql) | (trace_state; sorry)⟩
                    · as_aux_lemma =>
                      obtain rfl : q = sz := by omega
                      have HFN : Hid (RowF wr.heap wo.heap.size q (parS m l k (t + 1))) := hF2.out.congr fun z hz => by (try dsimp only); rw [if_pos hz]
                      clear HSK HPS hF2
                      go_wp2_with fail
                      exact ⟨⟨t + 1, by omega, by go_num, HFN, hC2⟩, by simp [intOf]; omega⟩
                · as_aux_lemma =>
                  obtain rfl : t = K := by omega
                  have hcv := conv_rowT (SeqIn.at_ (hF.out.rowIn (S := fun _ => True) trivial (by omega)))
                  have hcc : Chg (fun x => x = wo.heap.size) wo wi := Chg.trans (Kept.any (kal wo _)) hC.out
                  have HO : Hid (wi.ownsRow w3.heap.size 9 1 (.slice pt us.length qt) us.length us) := owns_chg HU.out hcc fun b hb e => by have := (own_block HU.out b hb).2.1; omega
                  have hz3 := HKI.out.size
                  generalize (List.range sz).map (parS m l k t) = R at *
                  go_wp2_with (at_builtin; refine wp_app1 elText rfl (.tmp 111) (.tmp 114) rfl w3.heap.size (.slice pt us.length qt) us rfl (HO.out.alloc _) _ (.string (strB R)) rfl (World.cell?_alloc_new _ _ _ _) rfl (by have := HL3.out; omega) (by simp; omega) ?_; intro v' w6 hown hchg; have HP6 := Lib.hid (OwnSeq.push (R := IsText) (R' := IsText) (l := ((sprM m l sz).take k).map strB) HL2.out H3.out hown (fun _ _ _ x => x) rfl); have HK6 : Hid (Keeps w3 w6) := HKI.out.then (chg_kept (B := w3.heap.size) (Chg.trans (Kept.any (kal wi _)) hchg) (fun q _ e => (own_block HO.out q e).1) HKI.out.size) (Nat.le_refl _); clear hown hchg)
                  exact ⟨⟨k + 1, by omega, by go_num, by rw [HSA.out]; exact HP6, HK6⟩, by simp [intOf]; omega⟩
            · as_aux_lemma =>
              obtain rfl : k = N := by omega
              have HKW : Hid (Keeps w w3) := (kal w _).trans HKC.out
              have hlen := hR.out.seq (by rw [List.length_map, List.length_take]; omega)
              have HLN := Lib.hid hlen
              clear hlen
              go_wp2
              go_ret2
              refine ⟨_, rfl, ?_, HKW.out.trans hK1.out⟩
              have h1 := HLN.out
              rw [List.take_of_length_le (by rw [sprM_len, HM.out.1]; exact Nat.le_refl _)] at h1
              rw [HSZQ.out, HMD.out, HLD.out]
              exact SeqIn.mono h1 (fun b hb => Nat.le_trans HKW.out.size hb) fun _ _ x => x
end Go.Proofs.YtllfhaocdknejaaDoor
