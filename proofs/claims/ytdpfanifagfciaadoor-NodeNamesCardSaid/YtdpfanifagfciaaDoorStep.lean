/- A step of a drawn region: append onto a slice of the call's own. No program in sight. -/
import Derived.Test.YtdpfanifagfciaaDoorApp
import Derived.Deep.AppendLies
import Derived.Deep.RegionHeld3
namespace Go.Proofs.YtdpfanifagfciaaDoor
open Go.RowKit
theorem own_empty (w : World) (base : Nat) (e : TypeId) (hb : base ≤ w.heap.size) : (w.alloc (.cells #[] e)).ownsRow base e 1 (.slice (some ⟨w.heap.size, 0, none⟩) 0 0) 0 [] :=
  ⟨rfl, .inr ⟨w.heap.size, 0, #[], rfl, hb, by unfold World.alloc; simp, Nat.le_refl _, by simp [maxLen], rfl, rfl⟩⟩
section
variable {P : Program} {t e : TypeId} {z : Value} {bytes : Nat} (E : ElemTy P t e z bytes) {w : World} {ops : Array Oper} {o : Oper} {a : Act} {K : Act → World → Prop} {Q : Exit → Act → World → Prop} {E' : Prop}
include E
theorem step_apps (hgd : o.guard = none) (s x : Operand) (ho : o.op = .call { callee := .builtin .append, args := #[s, x], argTypes := #[t, t] })
    (base : Nat) (v : Value) (xs : List Value) (hs : a.eval s = v) (hown : w.ownsRow base e 1 v xs.length xs) (b off m c : Nat) (news : List Value) (hx : a.eval x = .slice (some ⟨b, off, none⟩) m c) (hm : news.length = m) (hpos : 0 < m)
    (hc : ∀ j (h : j < news.length), w.cell? ⟨b, off + j, none⟩ = some news[j]) (h1 : ∀ u ∈ news, u.oneCell' = true)
    (hlen : (xs.length + news.length) * bytes ≤ 140737488355328) (hbase : base ≤ w.heap.size)
    (h : ∀ v' w', w'.ownsRow base e 1 v' (xs.length + news.length) (xs ++ news) → Chg (fun k => v.ownBlock = some k) w w' → K (a.put o.dst v') w') :
    if Region.wanted o (yielded ops a.tmps) = true then Oper.wp P o a w K Q else E' := by
  obtain ⟨i, h2, h3, h4, h5⟩ := info_parts E.hi
  have hb := E.hb
  have hle : xs.length + news.length ≤ (xs.length + news.length) * bytes := Nat.le_mul_of_pos_right _ hb
  refine step_append_lies w hgd s x t ho base e i z 1 bytes E.ht h2 h3 h4 h5 E.hz (by decide) v xs.length xs hs hown ⟨b, off, none⟩ m c news hx (by omega) ?_ h1 hpos (by unfold maxLen; omega) (by rw [← hm]; exact hlen) hbase _ rfl ?_
  · intro j u hj
    obtain ⟨hj1, hj2⟩ := List.getElem?_eq_some_iff.1 hj
    have hadd : (⟨b, off, none⟩ : Addr).add j = ⟨b, off + j, none⟩ := by unfold Addr.add; split <;> simp_all
    rw [hadd, hc j hj1, hj2]
  · intro g cap w' h6 h7 _ _
    rw [← hm] at h6 ⊢
    exact h _ w' h6 ((Chg.refl _ w).grown h7 fun k hk _ => hk)
theorem step_app1 (hgd : o.guard = none) (s x : Operand) (ho : o.op = .call { callee := .builtin .append, args := #[s, x], argTypes := #[t, t] })
    (base : Nat) (v : Value) (xs : List Value) (hs : a.eval s = v) (hown : w.ownsRow base e 1 v xs.length xs) (b : Nat) (u : Value) (hx : a.eval x = .slice (some ⟨b, 0, none⟩) 1 1)
    (hc : w.cell? ⟨b, 0, none⟩ = some u) (h1 : u.oneCell' = true)
    (hlen : (xs.length + 1) * bytes ≤ 140737488355328) (hbase : base ≤ w.heap.size)
    (h : ∀ v' w', w'.ownsRow base e 1 v' (xs.length + 1) (xs ++ [u]) → Chg (fun k => v.ownBlock = some k) w w' → K (a.put o.dst v') w') :
    if Region.wanted o (yielded ops a.tmps) = true then Oper.wp P o a w K Q else E' :=
  step_apps E hgd s x ho base v xs hs hown b 0 1 1 [u] hx rfl (by omega) (fun j hj => by
    have : j = 0 := by simp only [List.length_cons, List.length_nil] at hj; omega
    subst this; exact hc) (fun y hy => by rw [List.mem_singleton.1 hy]; exact h1) hlen hbase h
end
/-- The cells of a row of bytes. -/
def bytesV (r : List UInt8) : List Value := r.map fun x => .int .u8 (x.toNat : Int)
theorem bytesV_length (r : List UInt8) : (bytesV r).length = r.length := by unfold bytesV; rw [List.length_map]
theorem bytesV_one (r : List UInt8) : ∀ u ∈ bytesV r, u.oneCell' = true := fun u hu => by
  unfold bytesV at hu
  obtain ⟨x, _, rfl⟩ := List.mem_map.1 hu
  rfl
theorem bytesV_at {w : World} {b off c : Nat} {n : Nat} {r : List UInt8} (h : RowAt w.heap (.slice (some ⟨b, off, none⟩) n c) r) : ∀ j (hj : j < (bytesV r).length), w.cell? ⟨b, off + j, none⟩ = some (bytesV r)[j] := fun j hj => by
  obtain ⟨p, q, e, hl, hel⟩ := h
  injection e with e1 e2 e3
  rw [bytesV_length] at hj
  obtain ⟨b', off', u, e4, e5, e6⟩ := hel j hj
  rw [← e1] at e4
  simp only [Option.some.injEq, Addr.mk.injEq] at e4
  obtain ⟨rfl, rfl, _⟩ := e4
  rw [cell_of, e5, e6]
  simp [bytesV]
theorem bytesV_seq {w : World} {base : Nat} {v : Value} {r : List UInt8} (h : w.ownsRow base 5 1 v (bytesV r).length (bytesV r)) : OwnSeq base 5 IsByte w v r :=
  ⟨bytesV r, h, bytesV_length r, fun i hi hi' => by show _ = _; simp [bytesV]⟩
end Go.Proofs.YtdpfanifagfciaaDoor
