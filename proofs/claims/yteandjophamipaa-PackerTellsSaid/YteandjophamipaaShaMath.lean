/- The digest as plain functions on naturals and on lists of bytes. No program in sight. -/
import Derived.Test.YteandjophamipaaBase
namespace Go.Proofs.Yteandjophamipaa.SH
def rotr (x n : Nat) : Nat := (x >>> n) ||| ((x <<< (32 - n)) % 4294967296)
def sg0 (x : Nat) : Nat := rotr x 7 ^^^ rotr x 18 ^^^ (x >>> 3)
def sg1 (x : Nat) : Nat := rotr x 17 ^^^ rotr x 19 ^^^ (x >>> 10)
def bs0 (x : Nat) : Nat := rotr x 2 ^^^ rotr x 13 ^^^ rotr x 22
def bs1 (x : Nat) : Nat := rotr x 6 ^^^ rotr x 11 ^^^ rotr x 25
def ch (e f g : Nat) : Nat := (e &&& f) ^^^ ((4294967295 - e) &&& g)
def maj (a b c : Nat) : Nat := (a &&& b) ^^^ (a &&& c) ^^^ (b &&& c)
def primesL : List Nat := [2, 3, 5, 7, 11, 13, 17, 19, 23, 29, 31, 37, 41, 43, 47, 53, 59, 61, 67, 71, 73, 79, 83, 89, 97, 101, 103, 107, 109, 113, 127, 131, 137, 139, 149, 151, 157, 163, 167, 173, 179, 181, 191, 193, 197, 199, 211, 223, 227, 229, 233, 239, 241, 251, 257, 263, 269, 271, 277, 281, 283, 293, 307, 311]
def HL : List Nat := [1779033703, 3144134277, 1013904242, 2773480762, 1359893119, 2600822924, 528734635, 1541459225]
def KL : List Nat := [1116352408, 1899447441, 3049323471, 3921009573, 961987163, 1508970993, 2453635748, 2870763221, 3624381080, 310598401, 607225278, 1426881987, 1925078388, 2162078206, 2614888103, 3248222580, 3835390401, 4022224774, 264347078, 604807628, 770255983, 1249150122, 1555081692, 1996064986, 2554220882, 2821834349, 2952996808, 3210313671, 3336571891, 3584528711, 113926993, 338241895, 666307205, 773529912, 1294757372, 1396182291, 1695183700, 1986661051, 2177026350, 2456956037, 2730485921, 2820302411, 3259730800, 3345764771, 3516065817, 3600352804, 4094571909, 275423344, 430227734, 506948616, 659060556, 883997877, 958139571, 1322822218, 1537002063, 1747873779, 1955562222, 2024104815, 2227730452, 2361852424, 2428436474, 2756734187, 3204031479, 3329325298]
/-- The eight numbers, as a list. -/
abbrev S8 := List Nat
def at8 (s : S8) (i : Nat) : Nat := s.getD i 0
def xOf (s : S8) (k w : Nat) : Nat := (at8 s 7 + bs1 (at8 s 4) + ch (at8 s 4) (at8 s 5) (at8 s 6) + k + w) % 4294967296
def yOf (s : S8) : Nat := (bs0 (at8 s 0) + maj (at8 s 0) (at8 s 1) (at8 s 2)) % 4294967296
def rnd (s : S8) (k w : Nat) : S8 := [(xOf s k w + yOf s) % 4294967296, at8 s 0, at8 s 1, at8 s 2, (at8 s 3 + xOf s k w) % 4294967296, at8 s 4, at8 s 5, at8 s 6]
def byteAt (b : List UInt8) (i : Nat) : Nat := (b.getD i 0).toNat
def be32 (b : List UInt8) (i : Nat) : Nat := byteAt b (4 * i) * 16777216 + byteAt b (4 * i + 1) * 65536 + byteAt b (4 * i + 2) * 256 + byteAt b (4 * i + 3)
/-- Number i of a block, out of those ahead of it. -/
def nextW (b : List UInt8) (l : List Nat) (i : Nat) : Nat :=
  if i < 16 then be32 b i else (l.getD (i - 16) 0 + l.getD (i - 7) 0 + sg0 (l.getD (i - 15) 0) + sg1 (l.getD (i - 2) 0)) % 4294967296
def sched (b : List UInt8) : Nat → List Nat
  | 0 => []
  | i + 1 => sched b i ++ [nextW b (sched b i) i]
def wAt (b : List UInt8) (i : Nat) : Nat := (sched b 64).getD i 0
def rnds (b : List UInt8) (s : S8) : Nat → S8
  | 0 => s
  | i + 1 => rnd (rnds b s i) (KL.getD i 0) (wAt b i)
def addS (s t : S8) : S8 := (List.range 8).map fun i => (at8 s i + at8 t i) % 4294967296
def chgS (s : S8) (b : List UInt8) : S8 := addS s (rnds b s 64)
/-- The numbers behind n blocks of l. -/
def blk : Nat → S8 → List UInt8 → S8
  | 0, s, _ => s
  | n + 1, s, l => chgS (blk n s l) ((l.drop (64 * n)).take 64)
def fed (l : List UInt8) : S8 := blk (l.length / 64) HL l
def left (l : List UInt8) : List UInt8 := l.drop (64 * (l.length / 64))
def be64 (n : Nat) : List UInt8 := [UInt8.ofNat (n / 72057594037927936), UInt8.ofNat (n / 281474976710656), UInt8.ofNat (n / 1099511627776), UInt8.ofNat (n / 4294967296), UInt8.ofNat (n / 16777216), UInt8.ofNat (n / 65536), UInt8.ofNat (n / 256), UInt8.ofNat n]
def noughts (n : Nat) : Nat := (119 - n % 64) % 64
def fill (n : Nat) : List UInt8 := [128] ++ List.replicate (noughts n) 0 ++ be64 (8 * n)
def padB (l : List UInt8) : List UInt8 := l ++ fill l.length
def four (n : Nat) : List UInt8 := [UInt8.ofNat (n / 16777216), UInt8.ofNat (n / 65536), UInt8.ofNat (n / 256), UInt8.ofNat n]
def digest (s : S8) : List UInt8 := s.flatMap four
/-- The digest of bytes. -/
def sumB (l : List UInt8) : List UInt8 := digest (fed (padB l))

theorem rotr_lt {x : Nat} (n : Nat) (h : x < 4294967296) : rotr x n < 4294967296 := by
  unfold rotr
  refine Nat.or_lt_two_pow (n := 32) ?_ (Nat.mod_lt _ (by decide))
  exact Nat.lt_of_le_of_lt (Nat.shiftRight_le _ _) h
theorem sg0_lt {x : Nat} (h : x < 4294967296) : sg0 x < 4294967296 := by
  unfold sg0
  exact Nat.xor_lt_two_pow (n := 32) (Nat.xor_lt_two_pow (n := 32) (rotr_lt _ h) (rotr_lt _ h)) (Nat.lt_of_le_of_lt (Nat.shiftRight_le _ _) h)
theorem sg1_lt {x : Nat} (h : x < 4294967296) : sg1 x < 4294967296 := by
  unfold sg1
  exact Nat.xor_lt_two_pow (n := 32) (Nat.xor_lt_two_pow (n := 32) (rotr_lt _ h) (rotr_lt _ h)) (Nat.lt_of_le_of_lt (Nat.shiftRight_le _ _) h)
theorem byteAt_lt (b : List UInt8) (i : Nat) : byteAt b i < 256 := UInt8.toNat_lt _
theorem be32_lt (b : List UInt8) (i : Nat) : be32 b i < 4294967296 := by
  have h1 := byteAt_lt b (4 * i)
  have h2 := byteAt_lt b (4 * i + 1)
  have h3 := byteAt_lt b (4 * i + 2)
  have h4 := byteAt_lt b (4 * i + 3)
  unfold be32; omega
theorem sched_length (b : List UInt8) (n : Nat) : (sched b n).length = n := by
  induction n with
  | zero => rfl
  | succ n ih => unfold sched; rw [List.length_append, ih]; rfl
theorem nextW_lt (b : List UInt8) (l : List Nat) (i : Nat) : nextW b l i < 4294967296 := by
  unfold nextW
  split
  · exact be32_lt b i
  · exact Nat.mod_lt _ (by decide)
theorem sched_take (b : List UInt8) {i n : Nat} (h : i ≤ n) : (sched b n).take i = sched b i := by
  induction n with
  | zero => obtain rfl : i = 0 := by omega
            rfl
  | succ n ih =>
    rcases Nat.lt_or_ge n i with h1 | h1
    · obtain rfl : i = n + 1 := by omega
      exact List.take_of_length_le (by rw [sched_length]; omega)
    · have := ih h1
      show (sched b n ++ [_]).take i = _
      rw [List.take_append_of_le_length (by rw [sched_length]; exact h1)]; exact this
theorem sched_get (b : List UInt8) {i n : Nat} (h : i < n) : (sched b n).getD i 0 = nextW b (sched b i) i := by
  have h1 := sched_take b (i := i + 1) (n := n) h
  have h2 : ((sched b n).take (i + 1)).getD i 0 = (sched b n).getD i 0 := by
    rw [List.getD_eq_getElem?_getD, List.getElem?_take, if_pos (by omega), List.getD_eq_getElem?_getD]
  rw [← h2, h1]
  show (sched b i ++ [_]).getD i 0 = _
  rw [List.getD_eq_getElem?_getD, List.getElem?_append_right (by rw [sched_length]; exact Nat.le_refl _), sched_length]
  simp
theorem sched_same (b : List UInt8) {i n m : Nat} (h : i < n) (h' : i < m) : (sched b n).getD i 0 = (sched b m).getD i 0 := by rw [sched_get b h, sched_get b h']
theorem wAt_lt (b : List UInt8) (i : Nat) : wAt b i < 4294967296 := by
  unfold wAt
  rcases Nat.lt_or_ge i 64 with h | h
  · rw [sched_get b h]; exact nextW_lt _ _ _
  · rw [List.getD_eq_getElem?_getD, List.getElem?_eq_none (by rw [sched_length]; exact h)]; decide
theorem wAt_lo (b : List UInt8) {i : Nat} (h : i < 16) : wAt b i = be32 b i := by
  unfold wAt; rw [sched_get b (by omega)]; unfold nextW; rw [if_pos h]
theorem wAt_hi (b : List UInt8) {i : Nat} (h : 16 ≤ i) (h' : i < 64) : wAt b i = (wAt b (i - 16) + wAt b (i - 7) + sg0 (wAt b (i - 15)) + sg1 (wAt b (i - 2))) % 4294967296 := by
  have e : ∀ j, j < i → wAt b j = (sched b i).getD j 0 := fun j hj => sched_same b (by omega) hj
  rw [e (i - 16) (by omega), e (i - 7) (by omega), e (i - 15) (by omega), e (i - 2) (by omega)]
  unfold wAt; rw [sched_get b h']; unfold nextW; rw [if_neg (by omega)]

/-- Eight numbers of 32 bits. -/
def Ok8 (s : S8) : Prop := s.length = 8 ∧ ∀ i, at8 s i < 4294967296
theorem ok_HL : Ok8 HL := ⟨rfl, fun i => by
  unfold at8
  rcases Nat.lt_or_ge i 8 with h | h
  · have : ∀ j < 8, HL.getD j 0 < 4294967296 := by decide
    exact this i h
  · rw [List.getD_eq_getElem?_getD, List.getElem?_eq_none h]; decide⟩
theorem KL_lt (i : Nat) : KL.getD i 0 < 4294967296 := by
  rcases Nat.lt_or_ge i 64 with h | h
  · have : ∀ j < 64, KL.getD j 0 < 4294967296 := by decide
    exact this i h
  · rw [List.getD_eq_getElem?_getD, List.getElem?_eq_none h]; decide
theorem ok_rnd {s : S8} (h : Ok8 s) (k w : Nat) : Ok8 (rnd s k w) := by
  refine ⟨rfl, fun i => ?_⟩
  unfold at8 rnd
  have hm : ∀ n : Nat, n % 4294967296 < 4294967296 := fun n => Nat.mod_lt _ (by decide)
  match i with
  | 0 => exact hm _
  | 1 => exact h.2 0
  | 2 => exact h.2 1
  | 3 => exact h.2 2
  | 4 => exact hm _
  | 5 => exact h.2 4
  | 6 => exact h.2 5
  | 7 => exact h.2 6
  | n + 8 => exact Nat.zero_lt_succ _
theorem ok_rnds (b : List UInt8) {s : S8} (h : Ok8 s) (n : Nat) : Ok8 (rnds b s n) := by
  induction n with
  | zero => exact h
  | succ n ih => exact ok_rnd ih _ _
theorem addS_at (s t : S8) {i : Nat} (h : i < 8) : at8 (addS s t) i = (at8 s i + at8 t i) % 4294967296 := by
  unfold addS
  rw [at8, List.getD_eq_getElem?_getD, List.getElem?_map, List.getElem?_range h]; rfl
theorem ok_addS (s t : S8) : Ok8 (addS s t) := by
  refine ⟨by unfold addS; simp, fun i => ?_⟩
  rcases Nat.lt_or_ge i 8 with h | h
  · rw [addS_at s t h]; exact Nat.mod_lt _ (by decide)
  · unfold at8 addS; rw [List.getD_eq_getElem?_getD, List.getElem?_eq_none (by simpa using h)]; decide
theorem ok_blk {s : S8} (h : Ok8 s) (n : Nat) (l : List UInt8) : Ok8 (blk n s l) := by
  cases n with
  | zero => exact h
  | succ n => exact ok_addS _ _
theorem ok_fed (l : List UInt8) : Ok8 (fed l) := ok_blk ok_HL _ _
/-- Blocks of what comes first are the same blocks. -/
theorem blk_front {n : Nat} (s : S8) (l b : List UInt8) (h : 64 * n ≤ l.length) : blk n s (l ++ b) = blk n s l := by
  induction n with
  | zero => rfl
  | succ n ih =>
    show chgS _ _ = chgS _ _
    rw [ih (by omega), List.drop_append_of_le_length (by omega), List.take_append_of_le_length (by rw [List.length_drop]; omega)]
theorem blk_more (q j : Nat) (s : S8) (l : List UInt8) : blk (q + j) s l = blk j (blk q s l) (l.drop (64 * q)) := by
  induction j with
  | zero => rfl
  | succ j ih =>
    show chgS (blk (q + j) s l) ((l.drop (64 * (q + j))).take 64) = chgS _ _
    rw [ih, List.drop_drop, show 64 * q + 64 * j = 64 * (q + j) from by omega]
theorem left_length (l : List UInt8) : (left l).length = l.length % 64 := by unfold left; rw [List.length_drop]; omega
theorem left_append (l b : List UInt8) : (l ++ b).drop (64 * (l.length / 64)) = left l ++ b := by
  unfold left; rw [List.drop_append_of_le_length (by omega)]
/-- More bytes: blocks of what was left and of them. -/
theorem fed_append (l b : List UInt8) : fed (l ++ b) = blk ((left l ++ b).length / 64) (fed l) (left l ++ b) := by
  have hq : (l ++ b).length / 64 = l.length / 64 + (left l ++ b).length / 64 := by
    rw [List.length_append, List.length_append, left_length]; omega
  unfold fed
  rw [hq, blk_more, blk_front _ _ _ (by omega), left_append]
theorem left_append' (l b : List UInt8) : left (l ++ b) = (left l ++ b).drop (64 * ((left l ++ b).length / 64)) := by
  have hq : (l ++ b).length / 64 = l.length / 64 + (left l ++ b).length / 64 := by
    rw [List.length_append, List.length_append, left_length]; omega
  rw [← left_append, List.drop_drop]
  unfold left
  rw [hq, Nat.mul_add, left_append]
theorem noughts_ok (n : Nat) : (n + 1 + noughts n + 8) % 64 = 0 := by unfold noughts; omega
theorem noughts_first (n j : Nat) (h : j < noughts n) : (n + 1 + j + 8) % 64 ≠ 0 := by unfold noughts at h; omega
theorem noughts_lt (n : Nat) : noughts n < 64 := by unfold noughts; omega
theorem be64_length (n : Nat) : (be64 n).length = 8 := rfl
theorem fill_length (n : Nat) : (fill n).length = 9 + noughts n := by unfold fill; simp [be64_length]; omega
theorem padB_length (l : List UInt8) : (padB l).length = l.length + 9 + noughts l.length := by unfold padB; rw [List.length_append, fill_length]; omega
theorem padB_mod (l : List UInt8) : (padB l).length % 64 = 0 := by rw [padB_length]; have := noughts_ok l.length; omega
theorem digest_length {s : S8} (h : s.length = 8) : (digest s).length = 32 := by
  unfold digest
  rw [List.length_flatMap]
  have e : (fun a => (four a).length) = fun _ => 4 := rfl
  rw [e]
  have : ∀ l : List Nat, (l.map fun _ => 4).sum = 4 * l.length := fun l => by
    induction l with
    | nil => rfl
    | cons a l ih => rw [List.map_cons, List.sum_cons, ih, List.length_cons]; omega
  rw [this, h]
theorem sumB_length (l : List UInt8) : (sumB l).length = 32 := digest_length (ok_fed _).1
end Go.Proofs.Yteandjophamipaa.SH
