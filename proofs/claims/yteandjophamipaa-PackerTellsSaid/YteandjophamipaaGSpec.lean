/- The packs that chunks are gathered into, as they lie in memory. -/
import Derived.Test.YteandjophamipaaPkM
import Derived.Test.YteandjophamipaaRecB
import Derived.Test.YteandjophamipaaShaMath
namespace Go.Proofs.Yteandjophamipaa
open Go.RowKit
/-- A text's digest. -/
def dgT (s : ByteArray) : ByteArray := strB (SH.sumB s.data.toList)
theorem dgT_size (s : ByteArray) : (dgT s).size = 32 := by unfold dgT; rw [strB_size, SH.sumB_length]
/-- A pack's digest. -/
def dgP (g : List ByteArray) : ByteArray := dgT (strB (blobP g))
/-- A chunk's place: the pack's digest, where, how many bytes. -/
abbrev PlaceT := ByteArray × Int × Int
def placeP (g : List ByteArray) (i : Nat) : PlaceT := (dgP g, offP g i, ((atP g i).size : Int))
def placesP (g : List ByteArray) : List PlaceT := (List.range g.length).map (placeP g)
def IsPlace (us : List Value) (p : PlaceT) : Prop := us = [.string p.1, .int .i64 p.2.1, .int .i64 p.2.2]
/-- The cells of a pack. -/
def IsPack (S : Nat → Prop) (h : Array Obj) (us : List Value) (g : List ByteArray) : Prop :=
  ∃ c p, us = [.string (strB (blobP g)), .string (dgP g), c, p] ∧ SeqIn S 9 IsText h c (g.map dgT) ∧ RecIn S 54 3 IsPlace h p (placesP g)
theorem IsPack.chg {S T : Nat → Prop} {w w' : World} {us : List Value} {g : List ByteArray} (h : IsPack S w.heap us g) (c : Chg T w w') (hs : ∀ b, b < w.heap.size → S b → typH w.heap b = some 9 ∨ typH w.heap b = some 54 → ¬ T b) : IsPack S w'.heap us g := by
  obtain ⟨a, p, e, h1, h2⟩ := h
  exact ⟨a, p, e, h1.chg c (fun b hb hs' ht => hs b hb hs' (.inl ht)) fun _ _ _ x => x, h2.chg c (fun b hb hs' ht => hs b hb hs' (.inr ht)) fun _ _ _ x => x⟩
theorem IsPack.keeps {S : Nat → Prop} {w w' : World} {us : List Value} {g : List ByteArray} (h : IsPack S w.heap us g) (c : Keeps w w') : IsPack S w'.heap us g := h.chg (T := fun _ => False) (Kept.any c) fun _ _ _ _ x => x
theorem IsPack.mono {S S' : Nat → Prop} {h : Array Obj} {us : List Value} {g : List ByteArray} (k : IsPack S h us g) (hs : ∀ b, S b → S' b) : IsPack S' h us g := by
  obtain ⟨a, p, e, h1, h2⟩ := k
  exact ⟨a, p, e, h1.mono hs fun _ _ x => x, h2.mono hs fun _ _ x => x⟩
theorem IsPack.bound {S : Nat → Prop} {h : Array Obj} {us : List Value} {g : List ByteArray} (k : IsPack S h us g) : IsPack (fun b => S b ∧ b < h.size) h us g := by
  obtain ⟨a, p, e, h1, h2⟩ := k
  exact ⟨a, p, e, SeqIn.bound h1 fun _ _ x => x, h2.bound fun _ _ _ x => x⟩
theorem places_length (g : List ByteArray) : (placesP g).length = g.length := by unfold placesP; simp
theorem places_at {g : List ByteArray} {i : Nat} (h : i < g.length) : (placesP g)[i]'(by rw [places_length]; exact h) = placeP g i := by unfold placesP; simp
theorem places_take {g : List ByteArray} {k : Nat} (h : k < g.length) : (placesP g).take (k + 1) = (placesP g).take k ++ [placeP g k] := by
  rw [← places_at h]; exact (List.take_append_getElem (by rw [places_length]; exact h)).symm
theorem dgs_take {g : List ByteArray} {k : Nat} (h : k < g.length) : (g.take (k + 1)).map dgT = (g.take k).map dgT ++ [dgT (atP g k)] := by rw [take_snoc h, List.map_append]; rfl
theorem elPlace : ElemTyK Try.prog 44 54 (.agg #[.string ByteArray.empty, .int .i64 0, .int .i64 0]) 3 32 := ⟨Try.underlying44, by kernel_rfl, rfl, by decide, by decide⟩
def packZ : Value := .agg #[.string ByteArray.empty, .string ByteArray.empty, .slice none 0 0, .slice none 0 0]
theorem elPack : ElemTyK Try.prog 38 50 packZ 4 80 := ⟨Try.underlying38, by kernel_rfl, rfl, by decide, by decide⟩
theorem elRPack : ElemTyK Try.prog 41 46 packZ 4 80 := ⟨Try.underlying41, by kernel_rfl, rfl, by decide, by decide⟩
end Go.Proofs.Yteandjophamipaa
