/- '[]byte(s)' of a string, as an operation: a new row of its bytes. No program in sight but its types. -/
import Derived.Test.YtdpfanifagfciaaDoorAppAt
import Derived.Lib.ConvBytes
namespace Go.Proofs.YtdpfanifagfciaaDoor
open Go.RowKit
theorem bytesWorld_keeps (w : World) (e : TypeId) (s : ByteArray) : Keeps w (Lib.bytesWorld w e s) := by
  refine ⟨?_, ?_, ?_, by rw [Lib.bytesWorld_size]; omega, fun k hk => Lib.bytesWorld_at_old w e s k hk⟩
  all_goals (unfold Lib.bytesWorld World.freeze; rw [if_neg (by decide)]; rfl)
theorem bytesWorld_row (w : World) (s : ByteArray) (c : Nat) (h63 : s.size ≤ 9223372036854775807) : RowIn (· = w.heap.size) (Lib.bytesWorld w 5 s).heap (.slice (some ⟨w.heap.size, 0, none⟩) s.size c) s.data.toList := by
  refine ⟨_, c, by rw [data_size], by rw [data_size]; exact h63, fun i hi => ?_⟩
  rw [data_size] at hi
  have hc := Lib.bytesWorld_cell w 5 s i hi
  refine ⟨w.heap.size, 0, _, rfl, ⟨rfl, typH_of (Lib.bytesWorld_at_new w _ s)⟩, ?_, by rw [Nat.zero_add, ← cell_of]; exact hc, ?_⟩
  · unfold frozH
    rw [Lib.bytesWorld_at_new]
    have e : (Lib.bytesCells w 5 s).size = s.size + (grownCap w s.size 0 5 - s.size) := by unfold Lib.bytesCells; rw [Array.size_append, Array.size_map, Array.size_replicate]; rfl
    show (decide ((Lib.bytesCells w 5 s).size ≤ 0 + i) && _) = false
    rw [decide_eq_false (by rw [e]; omega), Bool.false_and]
  · show _ = _
    rw [List.getD_eq_getElem?_getD, List.getElem?_eq_getElem (by rw [data_size]; exact hi)]; rfl
section
variable {P : Program} {w : World} {o : Oper} {a : Act} {ops : Array Oper} {rest : List Oper} {K : Act → World → Prop} {Q : Exit → Act → World → Prop}
theorem oper_bytes (src dst : TypeId) (x : Operand) (ho : o.op = .convert src dst x) (s : ByteArray) (hx : a.eval x = .string s) (hs : P.underlying src = some .string) (hd : P.underlying dst = some (.slice 5)) (he : P.underlying 5 = some (.int .u8)) (h63 : s.size ≤ 9223372036854775807)
    (h : ∀ c w', s.size ≤ c → RowIn (· = w.heap.size) w'.heap (.slice (some ⟨w.heap.size, 0, none⟩) s.size c) s.data.toList → Keeps w w' → K (a.put o.dst (.slice (some ⟨w.heap.size, 0, none⟩) s.size c)) w') : Oper.wp P o a w K Q := by
  unfold Oper.wp execOp
  simp only [ho, hx, Sem.run_bind, Sem.run_pure, Lib.run_convert_string_bytes w src dst 5 s hs hd he, Result.andThen_ok]
  exact h _ _ (grownCap_ge w s.size 0 _) (bytesWorld_row w s _ h63) (bytesWorld_keeps w _ s)
theorem wp_bytes (hgd : o.guard = none) (src dst : TypeId) (x : Operand) (ho : o.op = .convert src dst x) (s : ByteArray) (hx : a.eval x = .string s) (hs : P.underlying src = some .string) (hd : P.underlying dst = some (.slice 5)) (he : P.underlying 5 = some (.int .u8)) (h63 : s.size ≤ 9223372036854775807)
    (h : ∀ c w', s.size ≤ c → RowIn (· = w.heap.size) w'.heap (.slice (some ⟨w.heap.size, 0, none⟩) s.size c) s.data.toList → Keeps w w' → wpList P ops Q rest (a.put o.dst (.slice (some ⟨w.heap.size, 0, none⟩) s.size c)) w') : wpList P ops Q (o :: rest) a w :=
  wpList_plain hgd fun _ hK => oper_bytes src dst x ho s hx hs hd he h63 fun c w' h1 h2 h3 => hK _ _ (h c w' h1 h2 h3)
end
end Go.Proofs.YtdpfanifagfciaaDoor
