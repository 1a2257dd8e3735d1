/- What a slice reads as: lists of bytes, of rows, of texts, of numbers; what changes, and what does not. No program in sight. -/
import Derived.Test.YtdpfanifagfciaaDoorBase
namespace Go.Proofs.YtdpfanifagfciaaDoor
open Go.RowKit

/-- Between two worlds nothing that was there has turned, but for blocks of T. -/
def Chg (T : Nat → Prop) (w w' : World) : Prop :=
  w'.os = w.os ∧ w'.tape = w.tape ∧ w'.output = w.output ∧ w.heap.size ≤ w'.heap.size ∧ ∀ k, k < w.heap.size → ¬ T k → w'.heap[k]? = w.heap[k]?
theorem Chg.refl (T : Nat → Prop) (w : World) : Chg T w w := ⟨rfl, rfl, rfl, Nat.le_refl _, fun _ _ _ => rfl⟩
theorem Chg.size {T : Nat → Prop} {w w' : World} (h : Chg T w w') : w.heap.size ≤ w'.heap.size := h.2.2.2.1
theorem Chg.trans {T : Nat → Prop} {a b c : World} (h : Chg T a b) (k : Chg T b c) : Chg T a c :=
  ⟨k.1.trans h.1, k.2.1.trans h.2.1, k.2.2.1.trans h.2.2.1, Nat.le_trans h.size k.size,
    fun i hi ht => (k.2.2.2.2 i (Nat.lt_of_lt_of_le hi h.size) ht).trans (h.2.2.2.2 i hi ht)⟩
theorem Chg.mono {T T' : Nat → Prop} {w w' : World} (h : Chg T w w') (ht : ∀ k, k < w.heap.size → T k → T' k) : Chg T' w w' :=
  ⟨h.1, h.2.1, h.2.2.1, h.size, fun k hk hn => h.2.2.2.2 k hk fun x => hn (ht k hk x)⟩
theorem Chg.alloc {T : Nat → Prop} {a w : World} (h : Chg T a w) (o : Obj) : Chg T a (w.alloc o) :=
  h.trans ⟨rfl, rfl, rfl, by simp, fun k hk _ => Below.heap_alloc _ _ _ hk⟩
theorem Chg.setCell {T : Nat → Prop} {a w : World} (h : Chg T a w) {p : Addr} (hp : p.block < a.heap.size → T p.block) (u : Value) : Chg T a (w.setCell p u) :=
  ⟨h.1, h.2.1, h.2.2.1, by rw [World.size_setCell]; exact h.size,
    fun k hk ht => by
      rw [Below.heap_setCell _ _ _ _ (fun e => ht (by subst e; exact hp hk))]; exact h.2.2.2.2 k hk ht⟩
theorem Kept.chg {B : Nat} {w w' : World} (h : Kept B w w') : Chg (fun k => B ≤ k) w w' :=
  ⟨h.1, h.2.1, h.2.2.1, h.size, fun k _ hn => h.2.2.2.2 k (Nat.lt_of_not_le hn)⟩
theorem Kept.any {T : Nat → Prop} {w w' : World} (h : Keeps w w') : Chg T w w' := ⟨h.1, h.2.1, h.2.2.1, h.size, fun k hk _ => h.2.2.2.2 k hk⟩
theorem Chg.keeps {T : Nat → Prop} {w w' : World} (h : Chg T w w') (ht : ∀ k, k < w.heap.size → ¬ T k) : Keeps w w' :=
  ⟨h.1, h.2.1, h.2.2.1, h.size, fun k hk => h.2.2.2.2 k hk (ht k hk)⟩
theorem Chg.call {T : Nat → Prop} {a b c : World} (h : Chg T a b) (k : Keeps b c) : Chg T a c := h.trans (Kept.any k)
theorem Chg.grown {T : Nat → Prop} {a w w' : World} {row : Option Nat} (h : Chg T a w) (hg : w.grownBy w' row) (hr : ∀ k, row = some k → k < a.heap.size → T k) : Chg T a w' :=
  ⟨hg.os.trans h.1, hg.tape.trans h.2.1, hg.output.trans h.2.2.1, Nat.le_trans h.size hg.size,
    fun k hk ht => (hg.block k (Nat.lt_of_lt_of_le hk h.size) (fun e => ht (hr k e.symm hk))).trans (h.2.2.2.2 k hk ht)⟩
theorem cellH_chg {T : Nat → Prop} {w w' : World} (h : Chg T w w') {b i : Nat} {v : Value} (e : cellH w.heap b i = some v) (ht : ¬ T b) : cellH w'.heap b i = some v := by
  have := h.2.2.2.2 b (cellH_lt e) ht
  unfold cellH at e ⊢; rw [this]; exact e
theorem frozH_chg {T : Nat → Prop} {w w' : World} (h : Chg T w w') {b i : Nat} (hb : b < w.heap.size) (ht : ¬ T b) : frozH w'.heap b i = frozH w.heap b i := by
  have := h.2.2.2.2 b hb ht
  unfold frozH; rw [this]

/-- The element type of block b. -/
def typH (h : Array Obj) (b : Nat) : Option TypeId := match h[b]? with | some (.cells _ e _) => some e | _ => none
theorem typH_lt {h : Array Obj} {b : Nat} {e : TypeId} (k : typH h b = some e) : b < h.size := by
  rcases Nat.lt_or_ge b h.size with h' | h'
  · exact h'
  · unfold typH at k; rw [Array.getElem?_eq_none h'] at k; cases k
theorem typH_chg {T : Nat → Prop} {w w' : World} (h : Chg T w w') {b : Nat} {e : TypeId} (k : typH w.heap b = some e) (ht : ¬ T b) : typH w'.heap b = some e := by
  have := h.2.2.2.2 b (typH_lt k) ht
  unfold typH at k ⊢; rw [this]; exact k
theorem typH_set (w : World) (a : Addr) (v : Value) (b : Nat) : typH (w.setCell a v).heap b = typH w.heap b := by
  unfold typH
  simp only [World.setCell, Array.getElem?_modify]
  by_cases hb : a.block = b
  · subst hb
    simp only [if_true]
    cases hh : w.heap[a.block]? with
    | none => simp
    | some x => cases x <;> simp
  · simp [hb]
theorem typH_new (w : World) (c : Array Value) (e : TypeId) : typH (w.alloc (.cells c e)).heap w.heap.size = some e := by
  unfold typH World.alloc; simp
theorem typH_of {w : World} {b : Nat} {c : Array Value} {e : TypeId} {f : Nat × Nat} (h : w.heap[b]? = some (.cells c e f)) : typH w.heap b = some e := by
  unfold typH; rw [h]

theorem keeps_cell {w w' : World} (k : Keeps w w') {b i : Nat} {v : Value} (c : w.cell? ⟨b, i, none⟩ = some v) : w'.cell? ⟨b, i, none⟩ = some v := by
  rw [cell_of] at c ⊢; exact cellH_chg (T := fun _ => False) (Kept.any k) c fun x => x
theorem cell_lt {w : World} {b i : Nat} {v : Value} (c : w.cell? ⟨b, i, none⟩ = some v) : b < w.heap.size := by rw [cell_of] at c; exact cellH_lt c
theorem keeps_froz {w w' : World} (k : Keeps w w') {b i : Nat} {v : Value} (c : w.cell? ⟨b, i, none⟩ = some v) (f : w.frozen? ⟨b, i, none⟩ = false) : w'.frozen? ⟨b, i, none⟩ = false := by
  rw [cell_of] at c; rw [froz_of] at f ⊢; rw [frozH_chg (T := fun _ => False) (Kept.any k) (cellH_lt c) fun x => x]; exact f

/-- A slice that reads as a list: element i lies in a block of S of element type E, may be written, and is in relation R to the list's element. -/
def SeqIn {α : Type} (S : Nat → Prop) (E : TypeId) (R : Value → α → Prop) (h : Array Obj) (v : Value) (l : List α) : Prop :=
  ∃ a cap, v = .slice a l.length cap ∧ l.length ≤ 9223372036854775807 ∧
    ∀ i (hi : i < l.length), ∃ b off u, a = some ⟨b, off, none⟩ ∧ (S b ∧ typH h b = some E) ∧ frozH h b (off + i) = false ∧ cellH h b (off + i) = some u ∧ R u l[i]
/-- The same, to be read alone. -/
def SeqAt {α : Type} (R : Value → α → Prop) (h : Array Obj) (v : Value) (l : List α) : Prop :=
  ∃ a cap, v = .slice a l.length cap ∧ l.length ≤ 9223372036854775807 ∧
    ∀ i (hi : i < l.length), ∃ b off u, a = some ⟨b, off, none⟩ ∧ cellH h b (off + i) = some u ∧ R u l[i]

theorem SeqIn.at_ {α : Type} {S : Nat → Prop} {E : TypeId} {R : Value → α → Prop} {h : Array Obj} {v : Value} {l : List α} (s : SeqIn S E R h v l) : SeqAt R h v l := by
  obtain ⟨a, cap, e, hl, hel⟩ := s
  exact ⟨a, cap, e, hl, fun i hi => let ⟨b, off, u, e1, _, _, e2, e3⟩ := hel i hi; ⟨b, off, u, e1, e2, e3⟩⟩
theorem SeqAt.imp {α : Type} {R R' : Value → α → Prop} {h h' : Array Obj} {v : Value} {l : List α} (s : SeqAt R h v l)
    (hc : ∀ b i u, cellH h b i = some u → cellH h' b i = some u) (hr : ∀ u x, x ∈ l → R u x → R' u x) : SeqAt R' h' v l := by
  obtain ⟨a, cap, e, hl, hel⟩ := s
  exact ⟨a, cap, e, hl, fun i hi => let ⟨b, off, u, e1, e2, e3⟩ := hel i hi; ⟨b, off, u, e1, hc _ _ _ e2, hr _ _ (List.getElem_mem hi) e3⟩⟩
theorem SeqAt.keeps {α : Type} {R : Value → α → Prop} {w w' : World} {v : Value} {l : List α} (s : SeqAt R w.heap v l) (k : Keeps w w') : SeqAt R w'.heap v l :=
  s.imp (fun _ _ _ e => cellH_chg (T := fun _ => False) (Kept.any k) e (fun x => x)) fun _ _ _ r => r
/-- What is not among the blocks that changed reads as it did. -/
theorem SeqIn.chg {α : Type} {S T : Nat → Prop} {E : TypeId} {R R' : Value → α → Prop} {w w' : World} {v : Value} {l : List α} (s : SeqIn S E R w.heap v l) (k : Chg T w w')
    (hst : ∀ b, b < w.heap.size → S b → typH w.heap b = some E → ¬ T b) (hr : ∀ u x, x ∈ l → R u x → R' u x) : SeqIn S E R' w'.heap v l := by
  obtain ⟨a, cap, e, hl, hel⟩ := s
  refine ⟨a, cap, e, hl, fun i hi => ?_⟩
  obtain ⟨b, off, u, e1, ⟨hs, he⟩, e2, e3, e4⟩ := hel i hi
  have hb := cellH_lt e3
  have hn := hst b hb hs he
  exact ⟨b, off, u, e1, ⟨hs, typH_chg k he hn⟩, by rw [frozH_chg k hb hn]; exact e2, cellH_chg k e3 hn, hr _ _ (List.getElem_mem hi) e4⟩
theorem SeqIn.mono {α : Type} {S S' : Nat → Prop} {E : TypeId} {R R' : Value → α → Prop} {h : Array Obj} {v : Value} {l : List α} (s : SeqIn S E R h v l) (hs : ∀ b, S b → S' b) (hr : ∀ u x, R u x → R' u x) : SeqIn S' E R' h v l := by
  obtain ⟨a, cap, e, hl, hel⟩ := s
  exact ⟨a, cap, e, hl, fun i hi => let ⟨b, off, u, e1, ⟨e0, et⟩, e2, e3, e4⟩ := hel i hi; ⟨b, off, u, e1, ⟨hs b e0, et⟩, e2, e3, hr _ _ e4⟩⟩
theorem SeqAt.nil {α : Type} (R : Value → α → Prop) (h : Array Obj) : SeqAt R h (.slice none 0 0) [] := ⟨none, 0, rfl, by simp, fun i hi => absurd hi (by simp)⟩
theorem SeqIn.nil {α : Type} (S : Nat → Prop) (E : TypeId) (R : Value → α → Prop) (h : Array Obj) : SeqIn S E R h (.slice none 0 0) [] := ⟨none, 0, rfl, by simp, fun i hi => absurd hi (by simp)⟩

def IsByte (u : Value) (x : UInt8) : Prop := u = .int .u8 (x.toNat : Int)
def IsInt (u : Value) (n : Int) : Prop := u = .int .i64 n
def IsText (u : Value) (s : ByteArray) : Prop := u = .string s
abbrev RowIn (S : Nat → Prop) (h : Array Obj) (v : Value) (r : List UInt8) : Prop := SeqIn S 5 IsByte h v r
abbrev RowAt (h : Array Obj) (v : Value) (r : List UInt8) : Prop := SeqAt IsByte h v r
abbrev MatIn (S : Nat → Prop) (h : Array Obj) (v : Value) (m : List (List UInt8)) : Prop := SeqIn S 45 (RowIn S h) h v m
abbrev MatAt (h : Array Obj) (v : Value) (m : List (List UInt8)) : Prop := SeqAt (RowAt h) h v m
theorem MatAt.keeps {w w' : World} {v : Value} {m : List (List UInt8)} (s : MatAt w.heap v m) (k : Keeps w w') : MatAt w'.heap v m :=
  s.imp (fun _ _ _ e => cellH_chg (T := fun _ => False) (Kept.any k) e (fun x => x)) fun _ _ _ r => SeqAt.keeps r k
theorem MatIn.chg {S T : Nat → Prop} {w w' : World} {v : Value} {m : List (List UInt8)} (s : MatIn S w.heap v m) (k : Chg T w w') (hst : ∀ b, b < w.heap.size → S b → ¬ T b) : MatIn S w'.heap v m :=
  SeqIn.chg s k (fun b hb hs _ => hst b hb hs) fun _ _ _ r => SeqIn.chg r k (fun b hb hs _ => hst b hb hs) fun _ _ _ x => x
theorem MatIn.keeps {S : Nat → Prop} {w w' : World} {v : Value} {m : List (List UInt8)} (s : MatIn S w.heap v m) (k : Keeps w w') : MatIn S w'.heap v m :=
  s.chg (T := fun _ => False) (Kept.any k) fun _ _ _ x => x
theorem MatIn.at_ {S : Nat → Prop} {h : Array Obj} {v : Value} {m : List (List UInt8)} (s : MatIn S h v m) : MatAt h v m :=
  (SeqIn.at_ s).imp (fun _ _ _ e => e) fun _ _ _ r => SeqIn.at_ r
theorem MatIn.mono {S S' : Nat → Prop} {h : Array Obj} {v : Value} {m : List (List UInt8)} (s : MatIn S h v m) (hs : ∀ b, S b → S' b) : MatIn S' h v m :=
  SeqIn.mono s hs fun _ _ r => SeqIn.mono r hs fun _ _ x => x

theorem SeqIn.bound {α : Type} {S : Nat → Prop} {E : TypeId} {R R' : Value → α → Prop} {h : Array Obj} {v : Value} {l : List α} (s : SeqIn S E R h v l) (hr : ∀ u x, R u x → R' u x) : SeqIn (fun b => S b ∧ b < h.size) E R' h v l := by
  obtain ⟨a, cap, e, hl, hel⟩ := s
  exact ⟨a, cap, e, hl, fun i hi => let ⟨b, off, u, e1, ⟨e0, et⟩, e2, e3, e4⟩ := hel i hi; ⟨b, off, u, e1, ⟨⟨e0, cellH_lt e3⟩, et⟩, e2, e3, hr _ _ e4⟩⟩
theorem MatIn.bound {S : Nat → Prop} {h : Array Obj} {v : Value} {m : List (List UInt8)} (s : MatIn S h v m) : MatIn (fun b => S b ∧ b < h.size) h v m :=
  SeqIn.bound s fun _ _ r => SeqIn.bound r fun _ _ x => x

/-- So many times one value. -/
def reps (n : Nat) (z : Value) : Array Value := ⟨List.replicate n z⟩
theorem reps_at {n i : Nat} (z : Value) (h : i < n) : (reps n z)[i]? = some z := by
  unfold reps; rw [← Array.getElem?_toList]
  simp only [List.getElem?_replicate, if_pos h]
theorem reps_size (n : Nat) (z : Value) : (reps n z).size = n := by unfold reps; simp
theorem made_reps (n : Nat) (z : Value) : madeCells #[z] n = reps n z := by
  apply Array.ext_getElem?
  intro i
  unfold madeCells reps
  rw [← Array.getElem?_toList]
  by_cases h : i < n
  · simp [h, Nat.mod_one]
  · simp [h]
theorem cells_one {z : Value} (hz : ∀ c, z ≠ .agg c) : z.cells = #[z] := by cases z <;> first | rfl | exact absurd rfl (hz _)
/-- 'make([]T, n)' of one-cell elements. -/
theorem run_mk {P : Program} (t e : TypeId) (bytes : Nat) (z : Value) (ht : P.underlying t = some (.slice e)) (hi : (P.info? e).map (fun i => (i.zero, i.size, i.bytes)) = some (some z, 1, bytes))
    (hz : z.cells = #[z]) (n : Nat) (hn : bytes * n ≤ 281474976710656) (h63 : n ≤ 9223372036854775807) (w : World) :
    (Instr.makeSlice t (.int .i64 (n : Int)) (.int .i64 (n : Int))).run P w = .ok (.slice (some ⟨w.heap.size, 0, none⟩) n n) (w.alloc (.cells (reps n z) e)) := by
  cases hp : P.info? e with
  | none => rw [hp] at hi; cases hi
  | some i =>
    rw [hp] at hi
    simp only [Option.map_some, Option.some.injEq, Prod.mk.injEq] at hi
    obtain ⟨h1, h2, h3⟩ := hi
    have hb : (i.bytes : Int) * (n : Int) ≤ 281474976710656 := by
      have : ((bytes * n : Nat) : Int) ≤ 281474976710656 := by omega
      rw [h3]; rwa [Int.natCast_mul] at this
    have := run_make (P := P) w t e i z ht hp h1 .i64 .i64 n n (by omega) (by omega) hb (by omega)
    rw [this, h2, hz, Int.toNat_natCast, Nat.mul_one, made_reps]
end Go.Proofs.YtdpfanifagfciaaDoor
