/- A map from texts to numbers that a call makes: what it holds, as a function; its look-up and its store. -/
import Derived.Test.YtdpfanifagfciaaDoorText
import Derived.Maps.OwnOps
import Derived.Maps.Views
import Derived.StringKeys
namespace Go.Proofs.YtdpfanifagfciaaDoor
open Go.RowKit Go.Maps Go.WideMaps
theorem data_inj {x y : ByteArray} (h : x.data.toList = y.data.toList) : x = y := by
  cases x; cases y; simp only [Array.toList_inj] at h; rw [h]
theorem cntKey : Keyed Tryd.prog 9 := string_keyed Tryd.underlying9
theorem cntZero (w : World) : (zeroValue 3).run Tryd.prog w = .ok (.int .i64 0) w := by kernel_rfl
/-- Block B is a map of at most n entries: at text s it holds f s, and nought where there is no entry. -/
def CntM (w : World) (B n : Nat) (f : ByteArray → Int) : Prop :=
  ∃ D : DataW Unit, w.ownsMap Tryd.prog 9 (plainElem Tryd.prog 3) B n D ∧ IsMap D ∧ ∀ s : ByteArray, s.size ≤ maxLen → D.atKey (.string s.data.toList) (.lit (.int .i64 0)) = .lit (.int .i64 (f s))
theorem CntM.new (w : World) : CntM (w.alloc (.map #[] 0)) w.heap.size 0 (fun _ => 0) :=
  ⟨.map [], World.ownsMap_made _ _ _ _, isMap_empty, fun _ _ => rfl⟩
theorem CntM.typ {w : World} {B n : Nat} {f : ByteArray → Int} (h : CntM w B n f) : typH w.heap B = none := by
  obtain ⟨D, ⟨es, clock, hb, _⟩, _⟩ := h
  unfold typH; rw [hb]
theorem CntM.lt {w : World} {B n : Nat} {f : ByteArray → Int} (h : CntM w B n f) : B < w.heap.size := let ⟨_, h, _⟩ := h; h.lt
theorem CntM.chg {T : Nat → Prop} {w w' : World} {B n : Nat} {f : ByteArray → Int} (h : CntM w B n f) (c : Chg T w w') (hT : ¬ T B) : CntM w' B n f := by
  have hl := h.lt
  obtain ⟨D, ⟨es, clock, hb, r⟩, h2⟩ := h
  exact ⟨D, ⟨es, clock, (c.2.2.2.2 B hl hT).trans hb, r⟩, h2⟩
theorem CntM.congr {w : World} {B n : Nat} {f g : ByteArray → Int} (h : CntM w B n f) (e : ∀ s, f s = g s) : CntM w B n g := by rw [← funext e]; exact h
section
variable {w : World} {ops : Array Oper} {rest : List Oper} {o : Oper} {a : Act} {Q : Exit → Act → World → Prop}
/-- 'm[s]' -/
theorem wp_cnt_look (hg : o.guard = none) (m x : Operand) (hop : o.op = Op.lookup 82 m x false) (B n : Nat) (f : ByteArray → Int) (hm : a.eval m = .map (some B)) (h : CntM w B n f) (s : ByteArray) (hx : a.eval x = .string s) (hs : s.size ≤ 9223372036854775807)
    (hK : wpList Tryd.prog ops Q rest (a.put o.dst (.int .i64 (f s))) w) : wpList Tryd.prog ops Q (o :: rest) a w := by
  obtain ⟨D, hown, _, hat⟩ := h
  refine wpList_lookup_own_int w hg m x 82 hop 9 3 .i64 cntKey Tryd.underlying82 Tryd.underlying3 (cntZero w) B n D hm hown _ _ hx (keyOf_string_mk Tryd.underlying9 (by unfold maxLen; omega)) fun c hc _ => ?_
  rw [hat s (by unfold maxLen; omega)] at hc
  simp only [DataW.lit.injEq, Lit.int.injEq, true_and] at hc
  rw [← hc]; exact hK
/-- 'm[s] = z' -/
theorem wp_cnt_put (hg : o.guard = none) (m x v : Operand) (hop : o.op = Op.mapUpdate 82 m x v) (B n : Nat) (f : ByteArray → Int) (hm : a.eval m = .map (some B)) (h : CntM w B n f) (hn : n < 9223372036854775807) (s : ByteArray) (hx : a.eval x = .string s) (hs : s.size ≤ 9223372036854775807)
    (z : Int) (hv : a.eval v = .int .i64 z) (hz : -9223372036854775808 ≤ z ∧ z ≤ 9223372036854775807)
    (hK : ∀ w', CntM w' B (n + 1) (fun t => if t = s then z else f t) → Chg (fun k => k = B) w w' → wpList Tryd.prog ops Q rest (a.put o.dst undef) w') : wpList Tryd.prog ops Q (o :: rest) a w := by
  obtain ⟨D, hown, hD, hat⟩ := h
  refine wpList_mapUpdate_own w hg m x v 82 hop 9 3 cntKey Tryd.underlying82 _ B n D hm hown (by unfold maxLen; omega) _ _ (.string s.data.toList) hx hv (keyOf_string_mk Tryd.underlying9 (by unfold maxLen; omega)) _ [] (plainElem_int Tryd.underlying3 (WalkArith.wf_i64 hz)) fun w' h1 h2 => ?_
  refine hK w' ⟨_, h1, hD.put _ _, fun t ht => ?_⟩ ((Chg.refl _ w).grown h2 fun k hk _ => (Option.some.inj hk).symm)
  show _ = DataW.lit (Lit.int IntKind.i64 (if t = s then z else f t))
  by_cases e : t = s
  · subst e
    rw [if_pos rfl, atKey_put_same hD (by trivial)]
  · rw [if_neg e, atKey_put_other (fun x => e (by
      simp only [Lit.string.injEq] at x
      exact data_inj x)), hat t ht]
end
end Go.Proofs.YtdpfanifagfciaaDoor
