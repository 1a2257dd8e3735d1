/- The walk of the law of the examples, limits and errors of package matrix. -/
import Derived.Test.YtojdodbedemkoaaWorks
import Derived.Test.YtojdodbedemkoaaDraw
import Derived.Test.YtojdodbedemkoaaGive
import Derived.Deep.RegionLawGrows
import Derived.Deep.Cut
import Derived.Test.YtojdodbedemkoaaAppZ
namespace Go.Proofs.Ytojdodbedemkoaa
open Go.RowKit
attribute [local go_sem ↓] Go.wp_at_zero Go.wp_at_succ
/-- An append of a drawn or guarded statement, whose guard is open. -/
theorem wpList_append_guarded {P : Program} (w : World) {ops : Array Oper} {rest : List Oper} {o : Oper} {a : Act} {Q : Exit → Act → World → Prop} (hgd : Region.wanted o (yielded ops a.tmps) = true) (s x : Operand) (t tn : TypeId)
    (ho : o.op = .call { callee := .builtin .append, args := #[s, x], argTypes := #[t, tn] }) (vs vx : Value) (hs : a.eval s = vs) (hx : a.eval x = vx)
    (v' : Value) (w' : World) (hr : (Builtin.append_ #[t, tn] o.type #[vs, vx]).run P w = .ok v' w') (h : wpList P ops Q rest (a.put o.dst v') w') : wpList P ops Q (o :: rest) a w :=
  wpList_step fun K hK => by rw [if_pos hgd]; exact Lib.wp_append_run w s x t tn ho vs vx hs hx v' w' hr (hK _ _ h)
theorem at_append {p : Prop} (h : Hid p) : p := h.out
theorem al_keeps (w : World) (o : Obj) : Keeps w (w.alloc o) := (keeps_refl w).alloc (Nat.le_refl _) o
/-- One's matrix of 12 rows. -/
def wideW : List (List UInt8) := matOf 12 12 oneAt
theorem w_len : wideW.length = 12 := rfl
theorem wn1 : oneM 13 = ([], 1) := by decide +kernel
theorem wn2 : oneM 0 = ([], 1) := by decide +kernel
theorem wn3 : ofM 0 1 = ([], 1) := by decide +kernel
theorem wn4 : ofM 2 1 = ([], 1) := by decide +kernel
theorem wn5 : ofM 1 13 = ([], 1) := by decide +kernel
theorem wn6 : ofM 12 12 = (wideW, 0) := by decide +kernel
theorem wn7 : rowsM wideW [] = ([], 1) := by decide +kernel
theorem wn8 : rowsM wideW (List.replicate 13 0) = ([], 1) := by decide +kernel
theorem wn9 : rowsM wideW [12] = ([], 1) := by decide +kernel
theorem wn10 : rowsM wideW [-1] = ([], 1) := by decide +kernel
theorem wn11 : rowsM [] [] = ([], 4) := by decide +kernel
theorem wn12 : vecM wideW (List.replicate 11 0) = ([], 4) := by decide +kernel
theorem wn13 : vecM [[]] [] = ([], 4) := by decide +kernel
theorem wn14 : mulM [[1, 2, 3]] [[1], [1], [1]] = ([[0]], 0) := by decide +kernel
theorem wn15 : mayB 12 wideW = true := by decide +kernel
theorem wn16 : mayB 12 (wideW ++ [wideW.headD []]) = false := by decide +kernel
theorem wn17 : mayB 12 [List.replicate 13 0] = false := by decide +kernel
theorem wn18 : ¬ wideW = [] := by decide +kernel
theorem may_e (va : Value) (m : List (List UInt8)) (w : World) (hm : MatAt w.heap va m) (x : Bool) (h : mayB 12 m = x) :
    Calls Try.prog 30 #[va] w fun e w' => e = .returned (.bool x) ∧ Keeps w w' := h ▸ may_any va m w hm
theorem maycode_e (k n : Int) (w : World) (x : Bool) (h : codeB k n = x) :
    Calls Try.prog 21 #[.agg #[.int .i64 k, .int .i64 n]] w fun e w' => e = .returned (.bool x) ∧ Keeps w w' := h ▸ maycode_any k n w
theorem same_e (va vb : Value) (ma mb : List (List UInt8)) (w : World) (ha : MatAt w.heap va ma) (hb : MatAt w.heap vb mb) (x : Bool) (h : decide (ma = mb) = x) :
    Calls Try.prog 32 #[va, vb] w fun e w' => e = .returned (.bool x) ∧ Keeps w w' := h ▸ kept (matsame_any va vb ma mb w ha hb)
set_option maxHeartbeats 1000000 in
theorem one_cap (w : World) : Calls Try.prog 18 #[.int .i64 12] w fun e w' => ∃ b, e = .returned (.tuple #[.slice (some ⟨b, 0, none⟩) 12 12, .int .i64 0]) ∧ MatAt w'.heap (.slice (some ⟨b, 0, none⟩) 12 12) wideW ∧ Keeps w w' := by
  have hmf : ∀ (fn : Fn) (first cap : Array Value) (w : World), (Instr.makeFunc fn first cap).run Try.prog w = .ok (.func fn first cap) w := fun _ _ _ _ => rfl
  go_enter Try.func18, Try.ntmps18
  go_wp2_with fail
  refine Calls.mono (made_cap 12 12 57 #[] oneAt _ (by omega) (by omega) enters_one fun wx _ i j _ _ => Calls.mono (one_any i j wx) fun e w' h => ⟨h.1, by rw [← h.2]; exact keeps_refl _⟩) ?_
  rintro e w1 ⟨b, rfl, hm, hk⟩
  go_wp2
  go_ret2
  exact ⟨b, rfl, hm.at_, hk⟩
theorem intreps (w : World) (n : Nat) (hn : n ≤ 4096) : SeqAt IsInt (w.alloc (.cells (reps n (.int .i64 0)) 3)).heap (.slice (some ⟨w.heap.size, 0, none⟩) n n) (List.replicate n 0) :=
  seqAt_lit w _ _ _ n n (by simp) (by omega) fun i hi => ⟨.int .i64 0, reps_at _ (by simpa using hi), by rw [List.getElem_replicate]; rfl⟩
theorem bytereps (w : World) (n : Nat) (hn : n ≤ 4096) : RowAt (w.alloc (.cells (reps n (.int .u8 0)) 5)).heap (.slice (some ⟨w.heap.size, 0, none⟩) n n) (List.replicate n 0) :=
  seqAt_lit w _ _ _ n n (by simp) (by omega) fun i hi => ⟨.int .u8 0, reps_at _ (by simpa using hi), by show _ = _; simp⟩
theorem mk_ints13 (w : World) : (Instr.makeSlice 34 (.int .i64 13) (.int .i64 13)).run Try.prog w = .ok (.slice (some ⟨w.heap.size, 0, none⟩) 13 13) (w.alloc (.cells (reps 13 (.int .i64 0)) 3)) :=
  run_mk 34 3 8 (.int .i64 0) Try.underlying34 (by kernel_rfl) rfl 13 (by omega) (by omega) w
theorem mk_bytes (n : Nat) (hn : n ≤ 4096) (w : World) : (Instr.makeSlice 33 (.int .i64 (n : Int)) (.int .i64 (n : Int))).run Try.prog w = .ok (.slice (some ⟨w.heap.size, 0, none⟩) n n) (w.alloc (.cells (reps n (.int .u8 0)) 5)) := mk_row n hn w
theorem mat1 (w : World) (a : List UInt8) (n : Nat) (hn : a.length = n) (h1 : n ≤ 9223372036854775807) :
    MatAt ((w.alloc (.cells ⟨bytesV a⟩ 5)).alloc (.cells #[.slice (some ⟨w.heap.size, 0, none⟩) n n] 33)).heap (.slice (some ⟨w.heap.size + 1, 0, none⟩) 1 1) [a] :=
  SeqAt.there (matAt_lit _ [_] [a] 1 1 rfl (by omega) rfl (fun i hi => match i, hi with
    | 0, _ => rowAt_lit w a n n hn h1)) (by simp)
theorem mat1a (w : World) (N : Nat) (hN : w.heap.size = N) (a : List UInt8) (n : Nat) (hn : a.length = n) (h1 : n ≤ 9223372036854775807) :
    MatAt ((w.alloc (.cells ⟨bytesV a⟩ 5)).alloc (.cells #[.slice (some ⟨N, 0, none⟩) n n] 33)).heap (.slice (some ⟨N + 1, 0, none⟩) 1 1) [a] := by
  subst hN
  exact mat1 w a n hn h1
theorem mat2 (w : World) (a b : List UInt8) (n k : Nat) (hn : a.length = n) (hk : b.length = k) (h1 : n ≤ 9223372036854775807) (h2 : k ≤ 9223372036854775807) :
    MatAt (((w.alloc (.cells ⟨bytesV a⟩ 5)).alloc (.cells ⟨bytesV b⟩ 5)).alloc (.cells #[.slice (some ⟨w.heap.size, 0, none⟩) n n, .slice (some ⟨w.heap.size + 1, 0, none⟩) k k] 33)).heap (.slice (some ⟨w.heap.size + 1 + 1, 0, none⟩) 2 2) [a, b] :=
  SeqAt.there (matAt_lit _ [_, _] [a, b] 2 2 rfl (by omega) rfl (fun i hi => match i, hi with
    | 0, _ => RowAt.al (rowAt_lit w a n n hn h1) _
    | 1, _ => SeqAt.there (rowAt_lit _ b k k hk h2) (by simp))) (by simp)
theorem mat3 (w : World) (N : Nat) (hN : w.heap.size = N) (a b c : List UInt8) (n k l : Nat) (hn : a.length = n) (hk : b.length = k) (hl : c.length = l) (h1 : n ≤ 9223372036854775807) (h2 : k ≤ 9223372036854775807) (h3 : l ≤ 9223372036854775807) :
    MatAt ((((w.alloc (.cells ⟨bytesV a⟩ 5)).alloc (.cells ⟨bytesV b⟩ 5)).alloc (.cells ⟨bytesV c⟩ 5)).alloc (.cells #[.slice (some ⟨N, 0, none⟩) n n, .slice (some ⟨N + 1, 0, none⟩) k k, .slice (some ⟨N + 1 + 1, 0, none⟩) l l] 33)).heap (.slice (some ⟨N + 1 + 1 + 1, 0, none⟩) 3 3) [a, b, c] := by
  subst hN
  exact SeqAt.there (matAt_lit _ [_, _, _] [a, b, c] 3 3 rfl (by omega) rfl (fun i hi => match i, hi with
    | 0, _ => RowAt.al (RowAt.al (rowAt_lit w a n n hn h1) _) _
    | 1, _ => RowAt.al (SeqAt.there (rowAt_lit _ b k k hk h2) (by simp)) _
    | 2, _ => SeqAt.there (rowAt_lit _ c l l hl h3) (by simp))) (by simp)
/-- The values of a slice's cells. -/
theorem seq_vals {α : Type} {R : Value → α → Prop} {h : Array Obj} {b off n c : Nat} {l : List α} (s : SeqAt R h (.slice (some ⟨b, off, none⟩) n c) l) :
    ∃ us : List Value, us.length = l.length ∧ ∀ i (hi : i < l.length) (hu : i < us.length), cellH h b (off + i) = some us[i] ∧ R us[i] l[i] := by
  obtain ⟨a, cap, e, hl, hel⟩ := s
  injection e with e1 e2 e3
  have hx : ∀ i : Nat, ∃ u, ∀ hi : i < l.length, cellH h b (off + i) = some u ∧ R u l[i] := fun i => by
    by_cases hi : i < l.length
    · obtain ⟨b', off', u, e4, e5, e6⟩ := hel i hi
      rw [← e1] at e4
      simp only [Option.some.injEq, Addr.mk.injEq] at e4
      obtain ⟨rfl, rfl, _⟩ := e4
      exact ⟨u, fun _ => ⟨e5, e6⟩⟩
    · exact ⟨undef, fun h => absurd h hi⟩
  refine ⟨(List.range l.length).map fun i => Classical.choose (hx i), by simp, fun i hi hu => ?_⟩
  rw [List.getElem_map, List.getElem_range]
  exact Classical.choose_spec (hx i) hi
theorem app_run {bW bx : Nat} (w : World) (ty : TypeId) (hW : MatAt w.heap (.slice (some ⟨bW, 0, none⟩) 12 12) wideW) (hx : MatAt w.heap (.slice (some ⟨bx, 0, none⟩) 1 1) [wideW.headD []]) :
    ∃ v' w', (Builtin.append_ #[24, 24] ty #[.slice (some ⟨bW, 0, none⟩) 12 12, .slice (some ⟨bx, 0, none⟩) 1 1]).run Try.prog w = .ok v' w' ∧ Keeps w w' ∧ MatAt w'.heap v' (wideW ++ [wideW.headD []]) := by
  obtain ⟨us, hu1, hu2⟩ := seq_vals hW
  obtain ⟨ns, hn1, hn2⟩ := seq_vals hx
  have hl : us.length = 12 := hu1
  have hl1 : ns.length = 1 := hn1
  obtain ⟨i, h2, h3, h4, h5⟩ := info_parts elRows.hi
  have hc1 : ∀ j u, us[j]? = some u → w.cell? ((⟨bW, 0, none⟩ : Addr).add j) = some u := fun j u hj => by
    obtain ⟨hj1, hj2⟩ := List.getElem?_eq_some_iff.1 hj
    have hadd : (⟨bW, 0, none⟩ : Addr).add j = ⟨bW, 0 + j, none⟩ := by unfold Addr.add; split <;> simp_all
    rw [hadd, cell_of, (hu2 j (by rw [w_len]; omega) hj1).1, hj2]
  have hc2 : ∀ j u, ns[j]? = some u → w.cell? ((⟨bx, 0, none⟩ : Addr).add j) = some u := fun j u hj => by
    obtain ⟨hj1, hj2⟩ := List.getElem?_eq_some_iff.1 hj
    have hadd : (⟨bx, 0, none⟩ : Addr).add j = ⟨bx, 0 + j, none⟩ := by unfold Addr.add; split <;> simp_all
    rw [hadd, cell_of, (hn2 j (by show j < 1; omega) hj1).1, hj2]
  obtain ⟨v', w', hrun, r1, r2⟩ := run_append_arg_grows (P := Try.prog) w 24 ty 33 i _ 1 _ elRows.ht h2 h3 h4 h5 elRows.hz (by decide) ⟨bW, 0, none⟩ 12 12 us hl hc1 ⟨bx, 0, none⟩ 1 1 ns hl1 hc2 (by decide) (by decide) (by decide)
  · refine ⟨v', w', hrun, Chg.keeps (T := fun _ => False) ((Chg.refl _ w).grown r2 fun k hk _ => by cases hk) fun _ _ h => h, ?_⟩
    have hk : Keeps w w' := Chg.keeps (T := fun _ => False) ((Chg.refl _ w).grown r2 fun k hk _ => by cases hk) fun _ _ h => h
    have hO : OwnSeq w.heap.size 33 (fun u r => RowAt w'.heap u r) w' v' (wideW ++ [wideW.headD []]) := by
      refine ⟨us ++ ns, by rw [List.length_append, hl, hl1]; exact r1, by rw [List.length_append, List.length_append, hl, hl1]; rfl, fun j hj hj' => ?_⟩
      have hj12 : j < 12 + 1 := by rw [List.length_append, hl, hl1] at hj; exact hj
      by_cases h : j < 12
      · rw [List.getElem_append_left (by omega), List.getElem_append_left (by rw [w_len]; exact h)]
        exact SeqAt.keeps (hu2 j (by rw [w_len]; exact h) (by omega)).2 hk
      · obtain rfl : j = 12 := by omega
        rw [List.getElem_append_right (by omega), List.getElem_append_right (by rw [w_len]; exact Nat.le_refl _)]
        have e0 : 12 - us.length = 0 := by omega
        have e9 : ns[12 - us.length]'(by omega) = ns[0]'(by omega) := by congr 1
        rw [e9]
        exact SeqAt.keeps (hn2 0 (by decide) (by omega)).2 hk
    exact (hO.seq (by decide)).at_
set_option maxRecDepth 100000 in
set_option maxHeartbeats 4000000 in
theorem mnames_any (w : World) : Calls Try.prog 12 #[] w fun e w' => e = .returned (.bool true) ∧ Keeps w w' := by
  have HK : Hid (Keeps w w) := keeps_refl w
  go_enter Try.func12, Try.ntmps12
  go_wp2_with fail
  refine Calls.mono (works_any _) ?_
  rintro e w1 ⟨rfl, hk⟩
  have HK : Hid (Keeps w w1) := HK.out.call hk (Nat.le_refl _)
  clear hk
  go_wp2_with fail
  refine Calls.mono (one_cap _) ?_
  rintro e w2 ⟨bW, rfl, hW, hk⟩
  have HW := Lib.hid hW
  clear hW
  have HK : Hid (Keeps w w2) := HK.out.call hk (Nat.le_refl _)
  clear hk
  go_wp2_with fail
  refine Calls.mono (gave (matone_any _ _) wn1) ?_
  rintro e w3 ⟨y1, rfl, _, hk⟩
  have HW := Lib.hid (MatAt.keeps HW.out hk)
  have HK : Hid (Keeps w w3) := HK.out.call hk (Nat.le_refl _)
  clear hk
  go_wp2_with fail
  refine Calls.mono (gave (matone_any _ _) wn2) ?_
  rintro e w4 ⟨y2, rfl, _, hk⟩
  have HW := Lib.hid (MatAt.keeps HW.out hk)
  have HK : Hid (Keeps w w4) := HK.out.call hk (Nat.le_refl _)
  clear hk
  go_wp2_with fail
  refine Calls.mono (gave (matof_any _ _ _) wn3) ?_
  rintro e w5 ⟨y3, rfl, _, hk⟩
  have HW := Lib.hid (MatAt.keeps HW.out hk)
  have HK : Hid (Keeps w w5) := HK.out.call hk (Nat.le_refl _)
  clear hk
  go_wp2_with fail
  refine Calls.mono (gave (matof_any _ _ _) wn4) ?_
  rintro e w6 ⟨y4, rfl, _, hk⟩
  have HW := Lib.hid (MatAt.keeps HW.out hk)
  have HK : Hid (Keeps w w6) := HK.out.call hk (Nat.le_refl _)
  clear hk
  go_wp2_with fail
  refine Calls.mono (gave (matof_any _ _ _) wn5) ?_
  rintro e w7 ⟨y5, rfl, _, hk⟩
  have HW := Lib.hid (MatAt.keeps HW.out hk)
  have HK : Hid (Keeps w w7) := HK.out.call hk (Nat.le_refl _)
  clear hk
  go_wp2_with fail
  refine Calls.mono (gave (matof_any _ _ _) wn6) ?_
  rintro e w8 ⟨vF, rfl, hF, hk⟩
  have HF := Lib.hid hF.at_
  clear hF
  have HW := Lib.hid (MatAt.keeps HW.out hk)
  have HK : Hid (Keeps w w8) := HK.out.call hk (Nat.le_refl _)
  clear hk
  go_wp2_with fail
  refine Calls.mono (gave (matrows_any _ _ wideW [] _ HW.out (SeqAt.nil _ _)) wn7) ?_
  rintro e w9 ⟨y6, rfl, _, hk⟩
  have HW := Lib.hid (MatAt.keeps HW.out hk)
  have HF := Lib.hid (MatAt.keeps HF.out hk)
  have HK : Hid (Keeps w w9) := HK.out.call hk (Nat.le_refl _)
  clear hk
  have hmi := mk_ints13
  go_wp2_with fail
  refine Calls.mono (gave (matrows_any _ _ wideW (List.replicate 13 0) _ (MatAt.al HW.out _) (intreps w9 13 (by omega))) wn8) ?_
  rintro e w10 ⟨y7, rfl, _, hk⟩
  have hk : Keeps w9 w10 := Keeps.trans (Keeps.al (keeps_refl w9) _) hk
  have HW := Lib.hid (MatAt.keeps HW.out hk)
  have HF := Lib.hid (MatAt.keeps HF.out hk)
  have HK : Hid (Keeps w w10) := HK.out.call hk (Nat.le_refl _)
  clear hk
  clear hmi
  go_wp2_with fail
  refine Calls.mono (gave (matrows_any _ _ wideW [12] _ (MatAt.al HW.out _) (intsAt_lit w10 [12] 1 1 rfl (by omega))) wn9) ?_
  rintro e w11 ⟨y8, rfl, _, hk⟩
  have hk : Keeps w10 w11 := Keeps.trans (Keeps.al (keeps_refl w10) _) hk
  have HW := Lib.hid (MatAt.keeps HW.out hk)
  have HF := Lib.hid (MatAt.keeps HF.out hk)
  have HK : Hid (Keeps w w11) := HK.out.call hk (Nat.le_refl _)
  clear hk
  go_wp2_with fail
  refine Calls.mono (gave (matrows_any _ _ wideW [-1] _ (MatAt.al HW.out _) (intsAt_lit w11 [-1] 1 1 rfl (by omega))) wn10) ?_
  rintro e w12 ⟨y9, rfl, _, hk⟩
  have hk : Keeps w11 w12 := Keeps.trans (Keeps.al (keeps_refl w11) _) hk
  have HW := Lib.hid (MatAt.keeps HW.out hk)
  have HF := Lib.hid (MatAt.keeps HF.out hk)
  have HK : Hid (Keeps w w12) := HK.out.call hk (Nat.le_refl _)
  clear hk
  go_wp2_with fail
  refine Calls.mono (gave (matrows_any _ _ [] [] _ (SeqAt.nil _ _) (SeqAt.nil _ _)) wn11) ?_
  rintro e w13 ⟨y10, rfl, _, hk⟩
  have HW := Lib.hid (MatAt.keeps HW.out hk)
  have HF := Lib.hid (MatAt.keeps HF.out hk)
  have HK : Hid (Keeps w w13) := HK.out.call hk (Nat.le_refl _)
  clear hk
  have hmb : ∀ w, (Instr.makeSlice 33 (.int .i64 11) (.int .i64 11)).run Try.prog w = _ := fun w => mk_bytes 11 (by omega) w
  go_wp2_with fail
  refine Calls.mono (gaveR (matvec_any _ _ wideW (List.replicate 11 0) _ (MatAt.al HW.out _) (bytereps w13 11 (by omega))) wn12) ?_
  rintro e w14 ⟨y11, rfl, _, hk⟩
  have hk : Keeps w13 w14 := Keeps.trans (Keeps.al (keeps_refl w13) _) hk
  have HW := Lib.hid (MatAt.keeps HW.out hk)
  have HF := Lib.hid (MatAt.keeps HF.out hk)
  have HK : Hid (Keeps w w14) := HK.out.call hk (Nat.le_refl _)
  clear hk
  clear hmb
  go_wp2_with fail
  refine Calls.mono (gaveR (matvec_any _ _ [[]] [] _ (mat1 w14 [] 0 rfl (by omega)) (SeqAt.nil _ _)) wn13) ?_
  rintro e w15 ⟨y12, rfl, _, hk⟩
  have hk : Keeps w14 w15 := Keeps.trans (Keeps.al (Keeps.al (keeps_refl w14) _) _) hk
  have HW := Lib.hid (MatAt.keeps HW.out hk)
  have HF := Lib.hid (MatAt.keeps HF.out hk)
  have HK : Hid (Keeps w w15) := HK.out.call hk (Nat.le_refl _)
  clear hk
  go_wp2_with fail
  refine Calls.mono (gave (matmul_any _ _ [[1, 2, 3]] [[1], [1], [1]] _ (MatAt.al (MatAt.al (MatAt.al (MatAt.al (mat1 w15 [1, 2, 3] 3 rfl (by omega)) _) _) _) _) (mat3 ((w15.alloc _).alloc _) (w15.heap.size + 1 + 1) (by simp) [1] [1] [1] 1 1 1 rfl rfl rfl (by omega) (by omega) (by omega))) wn14) ?_
  rintro e w16 ⟨vP, rfl, hP, hk⟩
  have hk : Keeps w15 w16 := Keeps.trans (Keeps.al (Keeps.al (Keeps.al (Keeps.al (Keeps.al (Keeps.al (keeps_refl w15) _) _) _) _) _) _) hk
  have HP := Lib.hid hP.at_
  clear hP
  have HW := Lib.hid (MatAt.keeps HW.out hk)
  have HF := Lib.hid (MatAt.keeps HF.out hk)
  have HK : Hid (Keeps w w16) := HK.out.call hk (Nat.le_refl _)
  clear hk
  go_wp2_with fail
  refine Calls.mono (same_e _ _ wideW wideW _ HF.out HW.out true (by decide +kernel)) ?_
  rintro e w17 ⟨rfl, hk⟩
  have HW := Lib.hid (MatAt.keeps HW.out hk)
  have HP := Lib.hid (MatAt.keeps HP.out hk)
  have HK : Hid (Keeps w w17) := HK.out.call hk (Nat.le_refl _)
  clear hk
  go_wp2_with fail
  refine Calls.mono (is_keeps _ _ [[0]] [⟨#[0]⟩] _ (MatAt.al HP.out _) (textsAt_lit w17 [⟨#[0]⟩] 1 1 rfl (by omega)) rfl) ?_
  rintro e w18 ⟨rfl, hk⟩
  have hk : Keeps w17 w18 := Keeps.trans (Keeps.al (keeps_refl w17) _) hk
  have HW := Lib.hid (MatAt.keeps HW.out hk)
  have HK : Hid (Keeps w w18) := HK.out.call hk (Nat.le_refl _)
  clear hk
  go_upto_region 20 with (fail)
  simp only [List.append]
  go_wp2_with fail
  refine Calls.mono (may_e _ wideW _ HW.out true wn15) ?_
  rintro e w19 ⟨rfl, hk⟩
  have HW := Lib.hid (MatAt.keeps HW.out hk)
  have HK : Hid (Keeps w w19) := HK.out.call hk (Nat.le_refl _)
  clear hk
  go_wp2_with fail
  refine Calls.mono (may_e _ [] _ (SeqAt.nil _ _) false rfl) ?_
  rintro e w20 ⟨rfl, hk⟩
  have HW := Lib.hid (MatAt.keeps HW.out hk)
  have HK : Hid (Keeps w w20) := HK.out.call hk (Nat.le_refl _)
  clear hk
  go_wp2_with fail
  refine Calls.mono (may_e _ [[]] _ (mat1 w20 [] 0 rfl (by omega)) false rfl) ?_
  rintro e w21 ⟨rfl, hk⟩
  have hk : Keeps w20 w21 := Keeps.trans (Keeps.al (Keeps.al (keeps_refl w20) _) _) hk
  have HW := Lib.hid (MatAt.keeps HW.out hk)
  have HK : Hid (Keeps w w21) := HK.out.call hk (Nat.le_refl _)
  clear hk
  go_wp2_with fail
  refine Calls.mono (may_e _ [[1], [1, 2]] _ (mat2 w21 [1] [1, 2] 1 2 rfl rfl (by omega) (by omega)) false rfl) ?_
  rintro e w22 ⟨rfl, hk⟩
  have hk : Keeps w21 w22 := Keeps.trans (Keeps.al (Keeps.al (Keeps.al (keeps_refl w21) _) _) _) hk
  have HW := Lib.hid (MatAt.keeps HW.out hk)
  have HK : Hid (Keeps w w22) := HK.out.call hk (Nat.le_refl _)
  clear hk
  have hmb : ∀ w, (Instr.makeSlice 33 (.int .i64 13) (.int .i64 13)).run Try.prog w = _ := fun w => mk_bytes 13 (by omega) w
  go_wp2_with fail
  refine Calls.mono (may_e _ [List.replicate 13 0] _ (SeqAt.there (matAt_lit _ [_] [List.replicate 13 0] 1 1 rfl (by omega) rfl (fun i hi => match i, hi with | 0, _ => bytereps w22 13 (by omega))) (by simp)) false wn17) ?_
  rintro e w23 ⟨rfl, hk⟩
  have hk : Keeps w22 w23 := Keeps.trans (Keeps.al (Keeps.al (keeps_refl w22) _) _) hk
  have HW := Lib.hid (MatAt.keeps HW.out hk)
  have HK : Hid (Keeps w w23) := HK.out.call hk (Nat.le_refl _)
  clear hk
  clear hmb
  obtain ⟨r0, c0, hr0, cr0⟩ : ∃ r0 c0, RowAt w23.heap (.slice r0 12 c0) (wideW.headD []) ∧ w23.cell? ⟨bW, 0, none⟩ = some (.slice r0 12 c0) := by
    obtain ⟨b1, o1, c1, u1, e5, d1, r1⟩ := mat_row (i := 0) HW.out (by rw [w_len]; omega)
    injection e5 with e6 e7 e8
    simp only [Option.some.injEq, Addr.mk.injEq] at e6
    obtain ⟨rfl, rfl, _⟩ := e6
    obtain ⟨p, q, rfl⟩ := seq_shape r1
    exact ⟨p, q, r1, d1⟩
  obtain ⟨va, wa, hrun, hka, hma⟩ := app_run (bx := w23.heap.size) (w23.alloc (.cells #[.slice r0 12 c0] 33)) 24 (MatAt.al HW.out _) (matAt_lit w23 [_] [wideW.headD []] 1 1 rfl (by omega) rfl (fun i hi => match i, hi with | 0, _ => hr0))
  have hks : Keeps w23 wa := Keeps.trans (al_keeps _ _) hka
  have HMA := Lib.hid hma
  have HKS := Lib.hid hks
  have hbw := cell_lt cr0
  clear hma hks hka hr0
  go_wp2_with (at_builtin; refine at_append ?_)
  refine Lib.hid ?_
  refine wpList_append_guarded _ ?a1 (.tmp 216) (.tmp 220) 24 24 ?a2 (.slice (some ⟨bW, 0, none⟩) 12 12) (.slice (some ⟨w23.heap.size, 0, none⟩) 1 1) ?a3 ?a4 _ _ hrun ?a5
  case a1 => kernel_rfl
  case a2 => rfl
  case a3 => rfl
  case a4 => rfl
  clear hrun cr0 hbw
  have HW := Lib.hid (MatAt.keeps HW.out HKS.out)
  have HK : Hid (Keeps w wa) := HK.out.call HKS.out (Nat.le_refl _)
  clear HKS
  go_wp2_with fail
  refine Calls.mono (may_e _ (wideW ++ [wideW.headD []]) _ HMA.out false wn16) ?_
  rintro e w24 ⟨rfl, hk⟩
  have HW := Lib.hid (MatAt.keeps HW.out hk)
  have HK : Hid (Keeps w w24) := HK.out.call hk (Nat.le_refl _)
  clear hk
  clear HMA
  go_wp2_with fail
  refine Calls.mono (may_e _ [[7]] _ (mat1 w24 [7] 1 rfl (by omega)) true rfl) ?_
  rintro e w25 ⟨rfl, hk⟩
  have hk : Keeps w24 w25 := Keeps.trans (Keeps.al (Keeps.al (keeps_refl w24) _) _) hk
  have HW := Lib.hid (MatAt.keeps HW.out hk)
  have HK : Hid (Keeps w w25) := HK.out.call hk (Nat.le_refl _)
  clear hk
  go_wp2_with fail
  refine Calls.mono (maycode_e 1 1 _ true rfl) ?_
  rintro e w26 ⟨rfl, hk⟩
  have HW := Lib.hid (MatAt.keeps HW.out hk)
  have HK : Hid (Keeps w w26) := HK.out.call hk (Nat.le_refl _)
  clear hk
  go_wp2_with fail
  refine Calls.mono (maycode_e 12 12 _ true rfl) ?_
  rintro e w27 ⟨rfl, hk⟩
  have HW := Lib.hid (MatAt.keeps HW.out hk)
  have HK : Hid (Keeps w w27) := HK.out.call hk (Nat.le_refl _)
  clear hk
  go_wp2_with fail
  refine Calls.mono (maycode_e (-1) 1 _ false rfl) ?_
  rintro e w28 ⟨rfl, hk⟩
  have HW := Lib.hid (MatAt.keeps HW.out hk)
  have HK : Hid (Keeps w w28) := HK.out.call hk (Nat.le_refl _)
  clear hk
  go_wp2_with fail
  refine Calls.mono (same_e _ _ wideW [] _ HW.out (SeqAt.nil _ _) false (decide_eq_false wn18)) ?_
  rintro e w29 ⟨rfl, hk⟩
  have HK : Hid (Keeps w w29) := HK.out.call hk (Nat.le_refl _)
  clear hk
  clear HW
  go_wp2_with fail
  refine Calls.mono (same_e _ _ [] [] _ (SeqAt.nil _ _) (SeqAt.nil _ _) true rfl) ?_
  rintro e w30 ⟨rfl, hk⟩
  have HK : Hid (Keeps w w30) := HK.out.call hk (Nat.le_refl _)
  clear hk
  go_wp2_with fail
  refine Calls.mono (same_e _ _ [[1]] [[2]] _ (MatAt.al (MatAt.al (mat1 w30 [1] 1 rfl (by omega)) _) _) (mat1a ((w30.alloc _).alloc _) (w30.heap.size + 1 + 1) (by simp) [2] 1 rfl (by omega)) false (by decide)) ?_
  rintro e w31 ⟨rfl, hk⟩
  have hk : Keeps w30 w31 := Keeps.trans (Keeps.al (Keeps.al (Keeps.al (Keeps.al (keeps_refl w30) _) _) _) _) hk
  have HK : Hid (Keeps w w31) := HK.out.call hk (Nat.le_refl _)
  clear hk
  go_wp2
  go_ret
  exact ⟨rfl, HK.out⟩
end Go.Proofs.Ytojdodbedemkoaa
