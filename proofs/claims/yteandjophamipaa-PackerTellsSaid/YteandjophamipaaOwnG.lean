/- Rows of the call's own whose block may bear a frozen mark behind its room (a conversion's row): append onto them. No program in sight. -/
import Derived.Test.YteandjophamipaaAppLoc
import Derived.Test.YteandjophamipaaConv
import Derived.Deep.Upon
namespace Go.Proofs.Yteandjophamipaa
open Go.RowKit
def OwnG {α : Type} (base : Nat) (E : TypeId) (R : Value → α → Prop) (h : Array Obj) (v : Value) (l : List α) : Prop :=
  (v = .slice none 0 0 ∧ l = []) ∨ ∃ g cap, v = .slice (some ⟨g, 0, none⟩) l.length cap ∧ base ≤ g ∧ typH h g = some E ∧ l.length ≤ cap ∧ cap ≤ 9223372036854775807 ∧ (∀ j, j < cap → (cellH h g j).isSome = true ∧ frozH h g j = false) ∧ ∀ i (hi : i < l.length), ∃ u, cellH h g i = some u ∧ R u l[i]
theorem OwnG.nil {α : Type} (base : Nat) (E : TypeId) (R : Value → α → Prop) (h : Array Obj) : OwnG base E R h (.slice none 0 0) [] := .inl ⟨rfl, rfl⟩
theorem OwnG.lt {α : Type} {base : Nat} {E : TypeId} {R : Value → α → Prop} {h : Array Obj} {v : Value} {l : List α} (o : OwnG base E R h v l) {k : Nat} (hk : v.ownBlock = some k) : base ≤ k ∧ k < h.size ∧ typH h k = some E := by
  rcases o with ⟨rfl, _⟩ | ⟨g, cap, rfl, hb, ht, _⟩
  · cases hk
  · simp only [Value.ownBlock, Option.some.injEq] at hk
    subst hk; exact ⟨hb, typH_lt ht, ht⟩
theorem OwnG.seq {α : Type} {base : Nat} {E : TypeId} {R : Value → α → Prop} {h : Array Obj} {v : Value} {l : List α} (o : OwnG base E R h v l) : SeqIn (base ≤ ·) E R h v l := by
  rcases o with ⟨rfl, rfl⟩ | ⟨g, cap, rfl, hb, ht, hc, hm, hcap, hel⟩
  · exact SeqIn.nil _ _ _ _
  · refine ⟨_, cap, rfl, by omega, fun i hi => ?_⟩
    obtain ⟨u, h1, h2⟩ := hel i hi
    exact ⟨g, 0, u, rfl, ⟨hb, ht⟩, by rw [Nat.zero_add]; exact (hcap i (by omega)).2, by rw [Nat.zero_add]; exact h1, h2⟩
theorem OwnG.chg {α : Type} {base : Nat} {E : TypeId} {T : Nat → Prop} {R R' : Value → α → Prop} {w w' : World} {v : Value} {l : List α} (o : OwnG base E R w.heap v l) (c : Chg T w w') (ht : ∀ k, v.ownBlock = some k → ¬ T k) (hr : ∀ a b, R a b → R' a b) : OwnG base E R' w'.heap v l := by
  rcases o with h | ⟨g, cap, rfl, hb, hty, hc, hm, hcap, hel⟩
  · exact .inl h
  · have hT := ht g rfl
    refine .inr ⟨g, cap, rfl, hb, typH_chg c hty hT, hc, hm, fun j hj => ?_, fun i hi => ?_⟩
    · obtain ⟨h1, h2⟩ := hcap j hj
      obtain ⟨u, hu⟩ := Option.isSome_iff_exists.1 h1
      exact ⟨by rw [cellH_chg c hu hT]; rfl, by rw [frozH_chg c (typH_lt hty) hT]; exact h2⟩
    · obtain ⟨u, h1, h2⟩ := hel i hi
      exact ⟨u, cellH_chg c h1 hT, hr _ _ h2⟩
theorem OwnG.keeps {α : Type} {base : Nat} {E : TypeId} {R : Value → α → Prop} {w w' : World} {v : Value} {l : List α} (o : OwnG base E R w.heap v l) (k : Keeps w w') : OwnG base E R w'.heap v l := o.chg (T := fun _ => False) (Kept.any k) (fun _ _ x => x) fun _ _ x => x
theorem OwnG.lower {α : Type} {base base' : Nat} {E : TypeId} {R : Value → α → Prop} {h : Array Obj} {v : Value} {l : List α} (o : OwnG base E R h v l) (hb : base' ≤ base) : OwnG base' E R h v l := by
  rcases o with h | ⟨g, cap, e, hg, r⟩
  · exact .inl h
  · exact .inr ⟨g, cap, e, Nat.le_trans hb hg, r⟩
theorem OwnSeq.g {α : Type} {base : Nat} {E : TypeId} {R : Value → α → Prop} {w : World} {v : Value} {l : List α} (o : OwnSeq base E R w v l) : OwnG base E R w.heap v l := by
  obtain ⟨us, ⟨h1, h2⟩, hl, hr⟩ := o
  rcases h2 with ⟨rfl, hn⟩ | ⟨g, cap, cur, rfl, hb, hg, hnc, hcm, hcs, htk⟩
  · exact .inl ⟨rfl, List.length_eq_zero_iff.1 (by omega)⟩
  · have hcell : ∀ j, cellH w.heap g j = cur[j]? := fun j => by unfold cellH; simp only [hg]
    refine .inr ⟨g, cap, by rw [hl], hb, typH_of hg, by omega, by unfold maxLen at hcm; omega, fun j hj => ⟨?_, ?_⟩, fun i hi => ?_⟩
    · rw [hcell, Array.getElem?_eq_getElem (by omega)]; rfl
    · unfold frozH; simp only [hg]; simp
    · refine ⟨us[i]'(by omega), ?_, hr i (by omega) hi⟩
      rw [hcell, ← Array.getElem?_toList]
      have h9 : (cur.toList.take (us.length * 1))[i]? = us[i]? := by rw [htk]
      rw [List.getElem?_take, if_pos (by omega), List.getElem?_eq_getElem (l := us) (by omega)] at h9
      exact h9
theorem typH_setCells (b : Nat) : ∀ (vs : List Value) (o : Nat) (w : World) (k : Nat), typH (w.setCells b o vs).heap k = typH w.heap k
  | [], _, _, _ => rfl
  | v :: r, o, w, k => by
    rw [World.setCells, typH_setCells b r (o + 1) _ k, typH_set]
theorem chg_setCells (b : Nat) (T : Nat → Prop) (hT : T b) (a : World) : ∀ (vs : List Value) (o : Nat) (w : World), Chg T a w → Chg T a (w.setCells b o vs)
  | [], _, _, h => h
  | v :: r, o, w, h => by
    rw [World.setCells]
    exact chg_setCells b T hT a r (o + 1) _ (h.setCell (p := ⟨b, o, none⟩) (fun _ => hT) v)
section
variable {P : Program} {t e : TypeId} {z : Value} {bytes : Nat} (E : ElemTy P t e z bytes) {w : World} {ops : Array Oper} {rest : List Oper} {o : Oper} {a : Act} {Q : Exit → Act → World → Prop} {K : Act → World → Prop}
include E
theorem run_appG {α : Type} {R : Value → α → Prop} (hR1 : ∀ u x, R u x → u.oneCell' = true) (ty : TypeId) {l m : List α} (base : Nat) (v : Value) (hv : OwnG base e R w.heap v l) (vx : Value) (hx : SeqAt R w.heap vx m)
    (hlen : (l.length + m.length) * bytes ≤ 140737488355328) (hbase : base ≤ w.heap.size) :
    ∃ v' w', (Builtin.append_ #[t, t] ty #[v, vx]).run P w = .ok v' w' ∧ OwnG base e R w'.heap v' (l ++ m) ∧ Chg (fun k => v.ownBlock = some k) w w' ∧ Loc v w.heap.size v' := by
  obtain ⟨i, h2, h3, h4, h5⟩ := info_parts E.hi
  have hb := E.hb
  have hle : l.length + m.length ≤ (l.length + m.length) * bytes := Nat.le_mul_of_pos_right _ hb
  have hadd : ∀ (b off j : Nat), (⟨b, off, none⟩ : Addr).add j = ⟨b, off + j, none⟩ := fun b off j => by unfold Addr.add; split <;> simp_all
  rcases Nat.eq_zero_or_pos m.length with h0 | h0
  · have hm0 : m = [] := List.length_eq_zero_iff.1 h0
    subst hm0
    obtain ⟨p, c, e0⟩ := seq_shape hx
    have e1 : vx = .slice p 0 c := e0
    subst e1
    refine ⟨v, w, ?_, by simpa using hv, Chg.refl _ w, fun k hk => .inl hk⟩
    rcases hv with ⟨rfl, _⟩ | ⟨g, cap, rfl, _, _, hc, _⟩
    · exact run_appnone t ty e i E.ht h2 none 0 0 (Nat.le_refl _) (fun _ => ⟨rfl, rfl⟩) p c
    · exact run_appnone t ty e i E.ht h2 _ _ _ hc (fun x => by cases x) p c
  · obtain ⟨bx, ox, cx, ux, rfl, _⟩ := seq_cell hx h0
    have hnl : (valsH w.heap bx ox m.length).length = m.length := valsH_length _ _ _ _
    have hnc : ∀ j u, (valsH w.heap bx ox m.length)[j]? = some u → w.cell? ((⟨bx, ox, none⟩ : Addr).add j) = some u := fun j u hj => by
      obtain ⟨hj1, hj2⟩ := List.getElem?_eq_some_iff.1 hj
      rw [hadd, (valsH_at hx (by rwa [hnl] at hj1) hj1).1, hj2]
    have hn1 : ∀ u ∈ valsH w.heap bx ox m.length, u.oneCell' = true := fun u hu => by
      obtain ⟨j, hj, rfl⟩ := List.getElem_of_mem hu
      exact hR1 _ _ (valsH_at hx (by rwa [hnl] at hj) hj).2
    have fin : ∀ (olds : List Value) (v' : Value) (w' : World), olds.length = l.length → (∀ i (h1 : i < olds.length) (h2 : i < l.length), R olds[i] l[i]) → w'.ownsRow w.heap.size e 1 v' (l.length + m.length) (olds ++ valsH w.heap bx ox m.length) → OwnG base e R w'.heap v' (l ++ m) := by
      intro olds v' w' hol hor hown
      refine (OwnSeq.g (w := w') (base := w.heap.size) ⟨olds ++ valsH w.heap bx ox m.length, by rw [List.length_append, hol, hnl]; exact hown, by rw [List.length_append, List.length_append, hol, hnl], fun j hj hj' => ?_⟩).lower hbase
      by_cases e0 : j < l.length
      · rw [List.getElem_append_left (by omega), List.getElem_append_left e0]; exact hor j (by omega) e0
      · have hjm : j - l.length < m.length := by rw [List.length_append] at hj'; omega
        rw [List.getElem_append_right (by omega), List.getElem_append_right (by omega)]
        have h9 := (valsH_at hx hjm (by rw [hnl]; exact hjm)).2
        simp only [hol]
        exact h9
    rcases hv with ⟨rfl, hl0⟩ | ⟨g, cap, rfl, hbg, hty, hlc, hcm, hcap, hel⟩
    · subst hl0
      obtain ⟨v', w', hr, ho, hgr, _⟩ := run_append_own (P := P) w w.heap.size t ty e i z 1 bytes E.ht h2 h3 h4 h5 E.hz (by decide) (.slice none 0 0) 0 [] (World.ownsRow_nil _ _ _ _) ⟨bx, ox, none⟩ m.length cx _ (by omega) hnc hn1 (by unfold maxLen; simp at hlen hle; omega) (by simpa using hlen) (Nat.le_refl _)
      exact ⟨v', w', hr, fin [] v' w' rfl (fun i h1 => absurd h1 (by simp)) (by simpa using ho), (Chg.refl _ w).grown hgr fun k hk _ => hk, fun k hk => .inr (own_block ho k hk).1⟩
    · by_cases hroom : l.length + m.length ≤ cap
      · have hidx : ∀ j, 0 + l.length * i.size + j = l.length + j := fun j => by rw [h4]; omega
        have hsome : ∀ j, j < (valsH w.heap bx ox m.length).length → (w.cell? ⟨g, 0 + l.length * i.size + j, none⟩).isSome = true := fun j hj => by rw [hidx, cell_of]; exact (hcap _ (by omega)).1
        have hr := run_append_room_cells (P := P) w t ty e i E.ht h2 g 0 l.length cap ⟨bx, ox, none⟩ m.length cx _ (by rw [hnl, h4]; omega) hnc hn1 hroom hsome (fun j hj => by rw [hidx, froz_of]; exact (hcap _ (by omega)).2)
        refine ⟨_, _, hr, ?_, chg_setCells g (fun k => (Value.slice (some ⟨g, 0, none⟩) l.length cap).ownBlock = some k) rfl w _ _ w (Chg.refl _ w), fun k hk => .inl hk⟩
        refine .inr ⟨g, cap, by rw [List.length_append], hbg, by rw [typH_setCells]; exact hty, by rw [List.length_append]; exact hroom, hcm, fun j hj => ⟨?_, ?_⟩, fun j hj => ?_⟩
        · rw [← cell_of]; exact World.isSome_setCells g _ _ w _ (by rw [cell_of]; exact (hcap j hj).1)
        · rw [← froz_of, World.frozen?_setCells, froz_of]; exact (hcap j hj).2
        · by_cases e0 : j < l.length
          · obtain ⟨u, h8, h9⟩ := hel j e0
            refine ⟨u, ?_, by rw [List.getElem_append_left e0]; exact h9⟩
            rw [← cell_of, World.cell?_setCells_out g _ _ w ⟨g, j, none⟩ (fun _ _ => .inl (by show j < 0 + l.length * i.size; rw [h4]; omega)), cell_of]; exact h8
          · have hjm : j - l.length < m.length := by rw [List.length_append] at hj; omega
            have hjn : j - l.length < (valsH w.heap bx ox m.length).length := by omega
            refine ⟨(valsH w.heap bx ox m.length)[j - l.length], ?_, by rw [List.getElem_append_right (by omega)]; exact (valsH_at hx hjm hjn).2⟩
            have h8 := World.cell?_setCells_in g (valsH w.heap bx ox m.length) (0 + l.length * i.size) w hsome (j - l.length) hjn
            rw [hidx, show l.length + (j - l.length) = j from by omega] at h8
            rw [← cell_of]; exact h8
      · have holds : ∀ j (hj : j < l.length), ∃ u, w.cell? ⟨g, 0 + j, none⟩ = some u ∧ R u l[j] := fun j hj => by
          obtain ⟨u, h8, h9⟩ := hel j hj
          exact ⟨u, by rw [Nat.zero_add, cell_of]; exact h8, h9⟩
        have hsq : SeqAt R w.heap (.slice (some ⟨g, 0, none⟩) l.length cap) l := ⟨_, cap, rfl, by omega, fun j hj => by
          obtain ⟨u, h8, h9⟩ := hel j hj
          exact ⟨g, 0, u, rfl, by rw [Nat.zero_add]; exact h8, h9⟩⟩
        obtain ⟨v', w', hr, ho, hgr⟩ := run_append_arg_grows (P := P) w t ty e i z 1 bytes E.ht h2 h3 h4 h5 E.hz (by decide) ⟨g, 0, none⟩ l.length cap (valsH w.heap g 0 l.length) (by rw [valsH_length]; omega) (fun j u hj => by
            obtain ⟨hj1, hj2⟩ := List.getElem?_eq_some_iff.1 hj
            rw [hadd, (valsH_at hsq (by rwa [valsH_length] at hj1) hj1).1, hj2]) ⟨bx, ox, none⟩ m.length cx _ (by omega) hnc (by omega) (by unfold maxLen; omega) hlen
        exact ⟨v', w', hr, fin _ v' w' (valsH_length _ _ _ _) (fun i h1 h2 => (valsH_at hsq h2 h1).2) ho, (Chg.refl _ w).grown hgr (fun k hk _ => by cases hk), fun k hk => .inr (own_block ho k hk).1⟩
theorem oper_appG {α : Type} {R : Value → α → Prop} (hR1 : ∀ u x, R u x → u.oneCell' = true) {l m : List α} (s x : Operand) (ho : o.op = .call { callee := .builtin .append, args := #[s, x], argTypes := #[t, t] })
    (base : Nat) (v : Value) (hs : a.eval s = v) (hv : OwnG base e R w.heap v l) (vx : Value) (hx : a.eval x = vx) (hm : SeqAt R w.heap vx m)
    (hlen : (l.length + m.length) * bytes ≤ 140737488355328) (hbase : base ≤ w.heap.size)
    (h : ∀ v' w', OwnG base e R w'.heap v' (l ++ m) → Chg (fun k => v.ownBlock = some k) w w' → Loc v w.heap.size v' → K (a.put o.dst v') w') : Oper.wp P o a w K Q := by
  obtain ⟨v', w', hr, h2, h3, h4⟩ := run_appG E (w := w) hR1 o.type base v hv vx hm hlen hbase
  unfold Oper.wp
  simp [execOp, ho, resolve, invoke, builtin, hs, hx, hr, Result.andThen]
  exact h v' w' h2 h3 h4
theorem wp_appG {α : Type} {R : Value → α → Prop} (hR1 : ∀ u x, R u x → u.oneCell' = true) {l m : List α} (hgd : o.guard = none) (s x : Operand) (ho : o.op = .call { callee := .builtin .append, args := #[s, x], argTypes := #[t, t] })
    (base : Nat) (v : Value) (hs : a.eval s = v) (hv : OwnG base e R w.heap v l) (vx : Value) (hx : a.eval x = vx) (hm : SeqAt R w.heap vx m)
    (hlen : (l.length + m.length) * bytes ≤ 140737488355328) (hbase : base ≤ w.heap.size)
    (h : ∀ v' w', OwnG base e R w'.heap v' (l ++ m) → Chg (fun k => v.ownBlock = some k) w w' → Loc v w.heap.size v' → wpList P ops Q rest (a.put o.dst v') w') : wpList P ops Q (o :: rest) a w :=
  wpList_plain hgd fun _ hK => oper_appG E hR1 s x ho base v hs hv vx hx hm hlen hbase fun v' w' h2 h3 h4 => hK _ _ (h v' w' h2 h3 h4)
end
theorem OwnG.kept {α : Type} {base : Nat} {E : TypeId} {R : Value → α → Prop} {w w' : World} {v : Value} {l : List α} (o : OwnG base E R w.heap v l) (c : Chg (fun k => v.ownBlock = some k) w w') (hb : base ≤ w.heap.size) : Kept base w w' :=
  Chg.kept (c.mono (T' := fun b => base ≤ b) fun _ _ h => (o.lt h).1) hb
section
variable {P : Program} {w : World} {o : Oper} {a : Act} {ops : Array Oper} {rest : List Oper} {K : Act → World → Prop} {Q : Exit → Act → World → Prop}
theorem bytesWorld_g (w : World) (s : ByteArray) (h63 : s.size ≤ 140737488355328) : OwnG w.heap.size 5 IsByte (Lib.bytesWorld w 5 s).heap (.slice (some ⟨w.heap.size, 0, none⟩) s.size (grownCap w s.size 0 5)) s.data.toList := by
  have hg := Lib.bytesWorld_at_new w 5 s
  have hge := grownCap_ge w s.size 0 5
  have hcs : (Lib.bytesCells w 5 s).size = grownCap w s.size 0 5 := by
    unfold Lib.bytesCells; rw [Array.size_append, Array.size_map, Array.size_replicate]
    have : s.data.size = s.size := rfl
    omega
  have hcl : grownCap w s.size 0 5 ≤ 9223372036854775807 := by
    have := grownCap_le_maxLen w s.size 0 5 (by unfold maxLen; omega)
    unfold maxLen at this; omega
  refine .inr ⟨w.heap.size, grownCap w s.size 0 5, by rw [data_size], Nat.le_refl _, typH_of hg, by rw [data_size]; exact hge, hcl, fun j hj => ⟨?_, ?_⟩, fun i hi => ?_⟩
  · unfold cellH; simp only [hg]; rw [Array.getElem?_eq_getElem (by omega)]; rfl
  · unfold frozH; simp only [hg]
    rw [decide_eq_false (by omega), Bool.false_and]
  · rw [data_size] at hi
    refine ⟨_, by rw [← cell_of]; exact Lib.bytesWorld_cell w 5 s i hi, ?_⟩
    show _ = _
    rw [List.getD_eq_getElem?_getD, List.getElem?_eq_getElem (by rw [data_size]; exact hi)]; rfl
theorem oper_bytesG (src dst : TypeId) (x : Operand) (ho : o.op = .convert src dst x) (s : ByteArray) (hx : a.eval x = .string s) (hs : P.underlying src = some .string) (hd : P.underlying dst = some (.slice 5)) (he : P.underlying 5 = some (.int .u8)) (h63 : s.size ≤ 140737488355328)
    (h : ∀ v w', OwnG w.heap.size 5 IsByte w'.heap v s.data.toList → Keeps w w' → K (a.put o.dst v) w') : Oper.wp P o a w K Q := by
  unfold Oper.wp execOp
  simp only [ho, hx, Sem.run_bind, Sem.run_pure, Lib.run_convert_string_bytes w src dst 5 s hs hd he, Result.andThen_ok]
  exact h _ _ (bytesWorld_g w s h63) (bytesWorld_keeps w _ s)
theorem wp_bytesG (hgd : o.guard = none) (src dst : TypeId) (x : Operand) (ho : o.op = .convert src dst x) (s : ByteArray) (hx : a.eval x = .string s) (hs : P.underlying src = some .string) (hd : P.underlying dst = some (.slice 5)) (he : P.underlying 5 = some (.int .u8)) (h63 : s.size ≤ 140737488355328)
    (h : ∀ v w', OwnG w.heap.size 5 IsByte w'.heap v s.data.toList → Keeps w w' → wpList P ops Q rest (a.put o.dst v) w') : wpList P ops Q (o :: rest) a w :=
  wpList_plain hgd fun _ hK => oper_bytesG src dst x ho s hx hs hd he h63 fun v w' h1 h2 => hK _ _ (h v w' h1 h2)
end
end Go.Proofs.Yteandjophamipaa
