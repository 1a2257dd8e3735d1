/- Texts: bytes of a list; comparison; lists of texts in memory. No program in sight but its types. -/
import Derived.Test.YtdpfanifagfciaaDoorApp
import Derived.Test.YtdpfanifagfciaaDoorStep
import Derived.Test.YtdpfanifagfciaaDoorProg
namespace Go.Proofs.YtdpfanifagfciaaDoor
open Go.RowKit
/-- A row of bytes as a text. -/
def strB (r : List UInt8) : ByteArray := ⟨r.toArray⟩
theorem toList_eq (s : ByteArray) : s.toList = s.data.toList := ByteArray.toList_eq s
theorem strB_toList (r : List UInt8) : (strB r).toList = r := by rw [toList_eq]; rfl
theorem strB_size (r : List UInt8) : (strB r).size = r.length := by simp [strB, ByteArray.size]
theorem strB_inj {r s : List UInt8} (h : strB r = strB s) : r = s := by have := congrArg ByteArray.toList h; rwa [strB_toList, strB_toList] at this
theorem strB_data (s : ByteArray) : strB s.data.toList = s := by cases s; rfl
theorem strB_append (r s : List UInt8) : strB r ++ strB s = strB (r ++ s) := by
  apply ByteArray.ext
  simp [strB]
theorem ext_take (s : ByteArray) (n : Nat) : s.extract 0 n = strB (s.data.toList.take n) := by
  apply ByteArray.ext
  rw [ByteArray.data_extract]
  apply Array.toList_inj.1
  simp [strB]
theorem ext_drop (s : ByteArray) (n : Nat) : s.extract n s.size = strB (s.data.toList.drop n) := by
  apply ByteArray.ext
  rw [ByteArray.data_extract]
  apply Array.toList_inj.1
  simp [strB]
  exact List.take_of_length_le (by rw [List.length_drop, Array.length_toList]; exact Nat.le_refl _)
theorem ext_both (s : ByteArray) (i j : Nat) : s.extract i j = strB ((s.data.toList.drop i).take (j - i)) := by
  apply ByteArray.ext
  rw [ByteArray.data_extract]
  apply Array.toList_inj.1
  simp [strB]
theorem data_size (s : ByteArray) : s.data.toList.length = s.size := by rw [Array.length_toList]; rfl
theorem txt_eq (r s : ByteArray) : (r.toList == s.toList) = decide (r = s) := by
  by_cases h : r = s
  · subst h; simp
  · rw [decide_eq_false h]
    refine beq_eq_false_iff_ne.2 fun e => h ?_
    rw [toList_eq, toList_eq] at e
    cases r; cases s; simp only [Array.toList_inj] at e; rw [e]
theorem seq_cell {α : Type} {R : Value → α → Prop} {w : World} {v : Value} {l : List α} (h : SeqAt R w.heap v l) {i : Nat} (hi : i < l.length) : ∃ b off c u, v = .slice (some ⟨b, off, none⟩) l.length c ∧ w.cell? ⟨b, off + i, none⟩ = some u ∧ R u l[i] := by
  obtain ⟨a, ca, rfl, hla, hea⟩ := h
  obtain ⟨b, off, u, rfl, c1, r1⟩ := hea i hi
  rw [← cell_of] at c1
  exact ⟨b, off, ca, u, rfl, c1, r1⟩
theorem seq_at {α : Type} {R : Value → α → Prop} {w : World} {b off n c : Nat} {l : List α} (h : SeqAt R w.heap (.slice (some ⟨b, off, none⟩) n c) l) {i : Nat} (hi : i < l.length) : ∃ u, w.cell? ⟨b, off + i, none⟩ = some u ∧ R u l[i] := by
  obtain ⟨b', off', c', u, e, c1, r1⟩ := seq_cell h hi
  injection e with e1 e2 e3
  injection e1 with e1
  injection e1 with e4 e5 _
  subst e4 e5
  exact ⟨u, c1, r1⟩
theorem seq_shape {α : Type} {R : Value → α → Prop} {h : Array Obj} {v : Value} {l : List α} (s : SeqAt R h v l) : ∃ p q, v = .slice p l.length q := let ⟨a, c, e, _⟩ := s; ⟨a, c, e⟩
theorem elInt : ElemTy Tryd.prog 55 3 (.int .i64 0) 8 := ⟨Tryd.underlying55, by kernel_rfl, rfl, by decide⟩
theorem elByte : ElemTy Tryd.prog 45 5 (.int .u8 0) 1 := ⟨Tryd.underlying45, by kernel_rfl, rfl, by decide⟩
theorem elText : ElemTy Tryd.prog 31 9 (.string ByteArray.empty) 16 := ⟨Tryd.underlying31, by kernel_rfl, rfl, by decide⟩
abbrev TextsAt (h : Array Obj) (v : Value) (l : List ByteArray) : Prop := SeqAt IsText h v l
theorem conv_none {P : Program} (w : World) (src e : TypeId) (hs : P.underlying src = some (.slice e)) (he : P.underlying e = some (.int .u8)) (p : Option Addr) (c : Nat) :
    ∀ dst, P.underlying dst = some .string → (convert src dst (.slice p 0 c)).run P w = .ok (.string ByteArray.empty) w := by
  intro dst hd
  rw [run_convert_bytes_string w src dst e _ 0 c hs he hd]
  cases p <;> simp [Conv.bytesToString, loadCells]
  all_goals rfl
/-- 'string(v)' of a row of bytes. -/
theorem conv_row {P : Program} {src dst e : TypeId} (hs : P.underlying src = some (.slice e)) (he : P.underlying e = some (.int .u8)) (hd : P.underlying dst = some .string)
    {w : World} {v : Value} {r : List UInt8} (h : RowAt w.heap v r) : (convert src dst v).run P w = .ok (.string (strB r)) w := by
  obtain ⟨a, cap, rfl, hl, hel⟩ := h
  by_cases h0 : r.length = 0
  · have hr : r = [] := List.length_eq_zero_iff.1 h0
    subst hr
    exact conv_none w src e hs he a cap dst hd
  · obtain ⟨b, off, u, rfl, _, _⟩ := hel 0 (by omega)
    refine run_convert_bytes_back w src dst e _ cap r hs he hd fun j hj => ?_
    obtain ⟨b', off', u', e1, e2, e3⟩ := hel j hj
    simp only [Option.some.injEq, Addr.mk.injEq] at e1
    obtain ⟨rfl, rfl, _⟩ := e1
    have hadd : (⟨b, off, none⟩ : Addr).add j = ⟨b, off + j, none⟩ := by unfold Addr.add; split <;> simp_all
    rw [hadd, cell_of, e2, e3]
theorem seqAt_lit {α : Type} {R : Value → α → Prop} (w : World) (cs : Array Value) (e : TypeId) (l : List α) (n c : Nat) (hn : l.length = n) (h63 : n ≤ 9223372036854775807)
    (h : ∀ i (hi : i < l.length), ∃ u, cs[i]? = some u ∧ R u l[i]) : SeqAt R (w.alloc (.cells cs e)).heap (.slice (some ⟨w.heap.size, 0, none⟩) n c) l := by
  subst hn
  refine ⟨_, c, rfl, h63, fun i hi => ?_⟩
  obtain ⟨u, h1, h2⟩ := h i hi
  refine ⟨w.heap.size, 0, u, rfl, ?_, h2⟩
  rw [← cell_of, World.cell?_alloc_new, Nat.zero_add]; exact h1
theorem SeqAt.there {α : Type} {R : Value → α → Prop} {w : World} {h : Array Obj} {l : List α} {n c N : Nat} (s : SeqAt R h (.slice (some ⟨w.heap.size, 0, none⟩) n c) l) (hN : w.heap.size = N) : SeqAt R h (.slice (some ⟨N, 0, none⟩) n c) l := hN ▸ s
theorem rowAt_lit (w : World) (r : List UInt8) (n c : Nat) (hn : r.length = n) (h63 : n ≤ 9223372036854775807) : RowAt (w.alloc (.cells ⟨bytesV r⟩ 5)).heap (.slice (some ⟨w.heap.size, 0, none⟩) n c) r :=
  seqAt_lit w _ _ r n c hn h63 fun i hi => ⟨.int .u8 (r[i].toNat : Int), by rw [← Array.getElem?_toList]; simp [bytesV, hi], rfl⟩
theorem intsAt_lit (w : World) (r : List Int) (n c : Nat) (hn : r.length = n) (h63 : n ≤ 9223372036854775807) : SeqAt IsInt (w.alloc (.cells ⟨r.map (Value.int .i64 ·)⟩ 3)).heap (.slice (some ⟨w.heap.size, 0, none⟩) n c) r :=
  seqAt_lit w _ _ r n c hn h63 fun i hi => ⟨.int .i64 r[i], by rw [← Array.getElem?_toList]; simp [hi], rfl⟩
theorem textsAt_lit (w : World) (r : List ByteArray) (n c : Nat) (hn : r.length = n) (h63 : n ≤ 9223372036854775807) : SeqAt IsText (w.alloc (.cells ⟨r.map (Value.string ·)⟩ 9)).heap (.slice (some ⟨w.heap.size, 0, none⟩) n c) r :=
  seqAt_lit w _ _ r n c hn h63 fun i hi => ⟨.string r[i], by rw [← Array.getElem?_toList]; simp [hi], rfl⟩
theorem SeqAt.al {α : Type} {R : Value → α → Prop} {w : World} {v : Value} {l : List α} (h : SeqAt R w.heap v l) (o : Obj) : SeqAt R (w.alloc o).heap v l := SeqAt.keeps h ((Kept.refl _ _).alloc (Nat.le_refl _) _)
theorem Chg.kept {B : Nat} {w w' : World} (h : Chg (fun b => B ≤ b) w w') (hB : B ≤ w.heap.size) : Kept B w w' := ⟨h.1, h.2.1, h.2.2.1, h.2.2.2.1, fun k hk => h.2.2.2.2 k (Nat.lt_of_lt_of_le hk hB) (Nat.not_le.2 hk)⟩
theorem drew_two (w : World) (a b : Nat) : (w.drewN a).drewN b = w.drewN (a + b) := by unfold World.drewN; simp [Nat.add_assoc]
theorem kal (w : World) (o : Obj) : Keeps w (w.alloc o) := (keeps_refl w).alloc (Nat.le_refl _) o
theorem kept {f : FuncId} {P : Program} {xs : Array Value} {w : World} {x : Ending} (h : Calls P f xs w fun e w' => e = x ∧ ∃ n, w' = w.drewN n) : Calls P f xs w fun e w' => e = x ∧ Keeps w w' :=
  h.mono fun _ _ ⟨a, n, b⟩ => ⟨a, by rw [b]; exact keeps_refl w⟩
end Go.Proofs.YtdpfanifagfciaaDoor
