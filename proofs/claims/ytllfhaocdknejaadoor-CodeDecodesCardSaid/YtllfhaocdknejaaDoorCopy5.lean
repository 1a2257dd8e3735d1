/- copy of a row of bytes into a new row. No program in sight but its types. -/
import Derived.Test.YtllfhaocdknejaaDoorCodeM
import Derived.Test.YtllfhaocdknejaaDoorRows
import Derived.Laws.CopyOwn
namespace Go.Proofs.YtllfhaocdknejaaDoor
open Go.RowKit
theorem setRow_chg (w : World) (g : Nat) (c : Array Value) : Chg (fun k => k = g) w (w.setRow g c) :=
  ⟨rfl, rfl, rfl, by simp [World.setRow], fun k hk hne => setRow_other w g k c (by omega)⟩
section
variable {w : World} {ops : Array Oper} {rest : List Oper} {o : Oper} {a : Act} {Q : Exit → Act → World → Prop}
theorem wp_copy_row (hgd : o.guard = none) (d s : Operand) (ho : o.op = .call { callee := .builtin .copy, args := #[d, s], argTypes := #[39, 39] })
    (g n c : Nat) (hd : a.eval d = .slice (some ⟨g, 0, none⟩) n c) (v : Value) (hs : a.eval s = v) (r : List UInt8) (hr : RowAt w.heap v r) (hn : r.length = n) (hpos : 0 < n)
    (cur : Array Value) (hg : w.heap[g]? = some (.cells cur 5 (0, 0))) (hc : cur.size = n)
    (h : ∀ w', Chg (fun k => k = g) w w' → RowIn (fun k => k = g) w'.heap (.slice (some ⟨g, 0, none⟩) n c) r → wpList Tryd.prog ops Q rest (a.put o.dst (.int .i64 (n : Int))) w') : wpList Tryd.prog ops Q (o :: rest) a w := by
  obtain ⟨p, q, rfl, hl, hel⟩ := hr
  obtain ⟨b, off, u, rfl, _, _⟩ := hel 0 (by omega)
  refine wpList_copy_own hgd d s 39 39 ho 5 Tryd.underlying39 (by kernel_rfl) g 0 n c ⟨b, off, none⟩ r.length q hd hs cur 5 hg (r.map fun x => .int .u8 (x.toNat : Int)) (by simp [hn]) ?_ (by simp [hn, hc]) ?_ ?_
  · intro j u hj
    rw [List.getElem?_map] at hj
    cases e : r[j]? with
    | none => rw [e] at hj; cases hj
    | some x =>
      rw [e] at hj
      simp only [Option.map_some, Option.some.injEq] at hj
      subst hj
      obtain ⟨hj1, hj2⟩ := List.getElem?_eq_some_iff.1 e
      obtain ⟨b', off', u', e1, e2, e3⟩ := hel j hj1
      simp only [Option.some.injEq, Addr.mk.injEq] at e1
      obtain ⟨rfl, rfl, _⟩ := e1
      have hadd : (⟨b, off, none⟩ : Addr).add j = ⟨b, off + j, none⟩ := by unfold Addr.add; split <;> simp_all
      rw [hadd, cell_of, e2, e3, hj2]
  · intro u hu
    obtain ⟨x, _, rfl⟩ := List.mem_map.1 hu
    rfl
  · rw [List.drop_of_length_le (by simp [hn, hc]), List.take_zero, List.nil_append, List.append_nil, List.length_map, hn]
    have hH := setRow_heap w g cur (r.map fun x => Value.int .u8 (x.toNat : Int)).toArray _ _ hg
    refine h _ (setRow_chg w g _) ⟨some ⟨g, 0, none⟩, c, by rw [hn], hl, fun i hi => ⟨g, 0, .int .u8 (r[i].toNat : Int), rfl, ⟨rfl, typH_of hH⟩, ?_, ?_, rfl⟩⟩
    · rw [← froz_of]; unfold World.frozen?; simp only [hH]; simp
    · unfold cellH; simp only [hH]; simp [hi]
end
end Go.Proofs.YtllfhaocdknejaaDoor
