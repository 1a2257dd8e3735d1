/- The walk of `many`: a byte, so often. -/
import Derived.Test.YteandjophamipaaText
namespace Go.Proofs.Yteandjophamipaa
open Go.RowKit
/-- Block r is a row of n bytes: f 0, .. -/
def BRow (h : Array Obj) (r n : Nat) (f : Nat → UInt8) : Prop := typH h r = some 5 ∧ ∀ j, j < n → frozH h r j = false ∧ cellH h r j = some (.int .u8 ((f j).toNat : Int))
theorem BRow.congr {h : Array Obj} {r n : Nat} {f g : Nat → UInt8} (k : BRow h r n f) (e : ∀ j, j < n → f j = g j) : BRow h r n g :=
  ⟨k.1, fun j hj => ⟨(k.2 j hj).1, by rw [← e j hj]; exact (k.2 j hj).2⟩⟩
theorem BRow.set {w : World} {r n : Nat} {f : Nat → UInt8} (k : BRow w.heap r n f) {j : Nat} (hj : j < n) (x : UInt8) : BRow (w.setCell ⟨r, j, none⟩ (.int .u8 (x.toNat : Int))).heap r n (fun q => if q = j then x else f q) := by
  refine ⟨by rw [typH_set]; exact k.1, fun q hq => ⟨by rw [frozH_set]; exact (k.2 q hq).1, ?_⟩⟩
  rw [cellH_set _ _ _ _ _ _ _ (k.2 j hj).2]
  by_cases e : j = q
  · subst e; rw [if_pos ⟨rfl, rfl⟩]; (try dsimp only); rw [if_pos rfl]
  · rw [if_neg (fun x => e x.2)]; (try dsimp only); rw [if_neg (fun h => e h.symm)]; exact (k.2 q hq).2
theorem BRow.new (w : World) (n : Nat) : BRow (w.alloc (.cells (reps n (.int .u8 0)) 5)).heap w.heap.size n (fun _ => 0) := by
  have hg : (w.alloc (.cells (reps n (.int .u8 0)) 5)).heap[w.heap.size]? = some (.cells (reps n (.int .u8 0)) 5 (0, 0)) := heap_alloc_new _ _
  refine ⟨typH_new _ _ _, fun j hj => ⟨?_, ?_⟩⟩
  · unfold frozH; rw [hg]; simp
  · unfold cellH; rw [hg]; exact reps_at _ hj
theorem BRow.at_ {h : Array Obj} {r n : Nat} {f : Nat → UInt8} (k : BRow h r n f) (hn : n ≤ 9223372036854775807) : RowAt h (.slice (some ⟨r, 0, none⟩) n n) ((List.range n).map f) :=
  ⟨_, n, by simp, by simpa using hn, fun i hi => ⟨r, 0, _, rfl, by rw [Nat.zero_add]; exact (k.2 i (by simpa using hi)).2, by simp [IsByte]⟩⟩
theorem mk_brow (n : Nat) (h : n ≤ 60000) (w : World) : (Instr.makeSlice 56 (.int .i64 (n : Int)) (.int .i64 (n : Int))).run Try.prog w = .ok (.slice (some ⟨w.heap.size, 0, none⟩) n n) (w.alloc (.cells (reps n (.int .u8 0)) 5)) :=
  run_mk 56 5 1 (.int .u8 0) Try.underlying56 (by kernel_rfl) rfl n (by omega) (by omega) w
def manyB (n : Nat) (c : UInt8) : ByteArray := strB (List.replicate n c)
set_option maxRecDepth 100000 in
set_option maxHeartbeats 4000000 in
theorem many_any (n : Nat) (c : UInt8) (w : World) (hn : n ≤ 60000) : Calls Try.prog 24 #[.int .i64 (n : Int), .int .u8 (c.toNat : Int)] w fun e w' => e = .returned (.string (manyB n c)) ∧ Keeps w w' := by
  have hmk := mk_brow n hn
  have HN := Lib.hid hn
  have hn2 : n ≤ 60000 := hn
  clear hn
  go_enter Try.func24, Try.ntmps24
  go_wp2_with fail
  clear hmk
  go_loopw [6] (fun i wr => ∃ k : Nat, k ≤ n ∧ i = .int .i64 k ∧ Hid (BRow wr.heap w.heap.size n (fun j => if j < k then c else 0)) ∧ Hid (Keeps w wr)) (fun i _ => n - (intOf i).toNat)
  case atStart => exact ⟨0, by omega, rfl, (BRow.new w n).congr fun j _ => by (try dsimp only); rw [if_neg (by omega)], kal _ _⟩
  case round =>
    obtain ⟨k, hk, rfl, hR, hK⟩ := hrel
    by_cases hlt : k < n
    · have i1 : (k : Int) < (n : Int) := by omega
      have i0 : (0 : Int) ≤ (k : Int) := by omega
      obtain ⟨f1, c1⟩ := hR.out.2 k hlt
      rw [← froz_of] at f1
      rw [← cell_of] at c1
      dsimp only at c1
      have HR2 : Hid (BRow (wr.setCell ⟨w.heap.size, k, none⟩ (.int .u8 (c.toNat : Int))).heap w.heap.size n (fun j => if j < k + 1 then c else 0)) := (hR.out.set hlt c).congr fun j _ => by
        (try dsimp only)
        by_cases e : j = k
        · rw [if_pos e, if_pos (by omega)]
        · rw [if_neg e]
          by_cases e2 : j < k
          · rw [if_pos e2, if_pos (by omega)]
          · rw [if_neg e2, if_neg (by omega)]
      have HK2 : Hid (Keeps w (wr.setCell ⟨w.heap.size, k, none⟩ (.int .u8 (c.toNat : Int)))) := hK.out.setCell (p := ⟨w.heap.size, k, none⟩) (Nat.le_refl _) _
      go_wp2
      exact ⟨⟨k + 1, by omega, by go_num, HR2, HK2⟩, by simp [intOf]; omega⟩
    · obtain rfl : k = n := by omega
      have HRA : Hid (RowAt wr.heap (.slice (some ⟨w.heap.size, 0, none⟩) k k) (List.replicate k c)) := by
        have h := (hR.out.congr (g := fun _ => c) fun j hj => by (try dsimp only); rw [if_pos hj]).at_ (by have := HN.out; omega)
        have e : (List.range k).map (fun _ => c) = List.replicate k c := by apply List.ext_getElem <;> simp
        show RowAt _ _ _
        rw [← e]; exact h
      have hcv := conv_row (P := Try.prog) (src := 56) (dst := 9) (e := 5) Try.underlying56 (by kernel_rfl) Try.underlying9 HRA.out
      go_wp2_with fail
      go_ret
      exact ⟨rfl, hK.out⟩
end Go.Proofs.Yteandjophamipaa
