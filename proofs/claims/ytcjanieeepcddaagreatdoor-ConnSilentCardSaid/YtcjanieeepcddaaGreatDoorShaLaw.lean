/-
  SHA-256, as the reference reckons it, answers what the program reckons: the plain law. No program in sight but for the names of its words.
-/
import Derived.Test.YtcjanieeepcddaaGreatDoorShaD
namespace Go.Proofs.YtcjanieeepcddaaGreatDoor
open Go.RowKit

/-- The reference's: turns to the right; a round over a list. -/
def rotr (x : W32) (n : Nat) : W32 := (x >>> n) ||| (x <<< (32 - n))
theorem rr_rotr (x : W32) (n : Nat) : rr x n = rotr x n := BitVec.or_comm _ _
def rs0 (x : W32) : W32 := rotr x 7 ^^^ rotr x 18 ^^^ (x >>> 3)
def rs1 (x : W32) : W32 := rotr x 17 ^^^ rotr x 19 ^^^ (x >>> 10)
theorem xor_aba (a b : W32) : a ^^^ b ^^^ a ^^^ a = a ^^^ b := by
  rw [BitVec.xor_assoc (a ^^^ b), BitVec.xor_self, BitVec.xor_zero]
theorem sg0_eq (x : W32) : sg0 x = rs0 x := by
  rw [sg0, trn, xor_aba, rr_rotr, rr_rotr, rs0]
theorem sg1_eq (x : W32) : sg1 x = rs1 x := by
  rw [sg1, trn, xor_aba, rr_rotr, rr_rotr, rs1]
theorem ch_eq (e f g : W32) : g ^^^ e &&& (f ^^^ g) = e &&& f ^^^ ~~~e &&& g := by
  ext i hi
  simp only [BitVec.getElem_xor, BitVec.getElem_and, BitVec.getElem_not]
  cases e[i] <;> cases f[i] <;> cases g[i] <;> rfl
/-- A round of the reference's. -/
def t1R (v : List W32) (k x : W32) : W32 := v.getD 7 0 + (rotr (v.getD 4 0) 6 ^^^ rotr (v.getD 4 0) 11 ^^^ rotr (v.getD 4 0) 25) + (v.getD 4 0 &&& v.getD 5 0 ^^^ ~~~(v.getD 4 0) &&& v.getD 6 0) + k + x
def t2R (v : List W32) : W32 := (rotr (v.getD 0 0) 2 ^^^ rotr (v.getD 0 0) 13 ^^^ rotr (v.getD 0 0) 22) + (v.getD 0 0 &&& v.getD 1 0 ^^^ v.getD 0 0 &&& v.getD 2 0 ^^^ v.getD 1 0 &&& v.getD 2 0)
def rstR (v : List W32) (k x : W32) : List W32 := [t1R v k x + t2R v, v.getD 0 0, v.getD 1 0, v.getD 2 0, v.getD 3 0 + t1R v k x, v.getD 4 0, v.getD 5 0, v.getD 6 0]
def rvs (K : Nat → W32) (ws : List W32) (h : List W32) : Nat → List W32
  | 0 => h
  | t + 1 => rstR (rvs K ws h t) (K t) (ws.getD t 0)
theorem up_eq (v : List W32) (k x : W32) : rUp (fun i => v.getD i 0) (x + k) = t1R v k x := by
  rw [rUp, trn, rr_rotr, rr_rotr, rr_rotr, ch_eq, t1R]
  rw [BitVec.add_comm x k, ← BitVec.add_assoc]
theorem top_eq (v : List W32) (k x : W32) : rTop (fun i => v.getD i 0) (x + k) = t1R v k x + t2R v := by
  rw [rTop, up_eq, trn, rr_rotr, rr_rotr, rr_rotr, t2R, BitVec.add_assoc]
theorem rnd_eq (v : List W32) (k x : W32) (i : Nat) (hi : i < 8) : rnd (fun i => v.getD i 0) (x + k) i = (rstR v k x).getD i 0 := by
  have : i = 0 ∨ i = 1 ∨ i = 2 ∨ i = 3 ∨ i = 4 ∨ i = 5 ∨ i = 6 ∨ i = 7 := by omega
  rcases this with h | h | h | h | h | h | h | h <;> subst h
  · exact top_eq v k x
  · rfl
  · rfl
  · rfl
  · show v.getD 3 0 + rUp _ _ = _; rw [up_eq]; rfl
  · rfl
  · rfl
  · rfl
theorem rUp_congr {s s' : Nat → W32} (h : ∀ i, i < 8 → s i = s' i) (x : W32) : rUp s x = rUp s' x := by
  unfold rUp; rw [h 7 (by omega), h 4 (by omega), h 6 (by omega), h 5 (by omega)]
theorem rTop_congr {s s' : Nat → W32} (h : ∀ i, i < 8 → s i = s' i) (x : W32) : rTop s x = rTop s' x := by
  unfold rTop; rw [rUp_congr h, h 0 (by omega), h 1 (by omega), h 2 (by omega)]
theorem rnd_congr {s s' : Nat → W32} (h : ∀ i, i < 8 → s i = s' i) (x : W32) (i : Nat) (hi : i < 8) : rnd s x i = rnd s' x i := by
  have : i = 0 ∨ i = 1 ∨ i = 2 ∨ i = 3 ∨ i = 4 ∨ i = 5 ∨ i = 6 ∨ i = 7 := by omega
  rcases this with e | e | e | e | e | e | e | e <;> subst e
  · exact rTop_congr h x
  · exact h 0 (by omega)
  · exact h 1 (by omega)
  · exact h 2 (by omega)
  · show s 3 + rUp s x = s' 3 + rUp s' x; rw [h 3 (by omega), rUp_congr h]
  · exact h 4 (by omega)
  · exact h 5 (by omega)
  · exact h 6 (by omega)
theorem rvs_length (K : Nat → W32) (ws h : List W32) (h8 : h.length = 8) : ∀ t, (rvs K ws h t).length = 8
  | 0 => h8
  | _ + 1 => rfl
theorem rnds_eq (K : Nat → W32) (ws h : List W32) : ∀ t i, i < 8 → rnds K ws (fun i => h.getD i 0) t i = (rvs K ws h t).getD i 0
  | 0, _, _ => rfl
  | t + 1, i, hi => by
    rw [rnds, rnd_congr (fun j hj => rnds_eq K ws h t j hj) _ i hi, rnd_eq _ _ _ _ hi, rvs]
/-- The words of a digest behind a block: the sums. -/
def sumsR (h v : List W32) : List W32 := (List.range 8).map fun i => h.getD i 0 + v.getD i 0
theorem addK_eq (h0 h1 h2 h3 h4 h5 h6 h7 : W32) (s : Nat → W32) : addK [h0, h1, h2, h3, h4, h5, h6, h7] s 8 = [h0 + s 0, h1 + s 1, h2 + s 2, h3 + s 3, h4 + s 4, h5 + s 5, h6 + s 6, h7 + s 7] := rfl
theorem addK_sums (h : List W32) (s : Nat → W32) (v : List W32) (h8 : h.length = 8) (hs : ∀ i, i < 8 → s i = v.getD i 0) : addK h s 8 = sumsR h v := by
  match h, h8 with
  | [h0, h1, h2, h3, h4, h5, h6, h7], _ =>
    rw [addK_eq, hs 0 (by omega), hs 1 (by omega), hs 2 (by omega), hs 3 (by omega), hs 4 (by omega), hs 5 (by omega), hs 6 (by omega), hs 7 (by omega)]
    rfl
def be4 (a b c d : Int) : W32 := (BitVec.ofInt 32 a <<< 24) ||| (BitVec.ofInt 32 b <<< 16) ||| (BitVec.ofInt 32 c <<< 8) ||| BitVec.ofInt 32 d
theorem or_sum (x y i : Nat) (h : y < 2 ^ i) : x * 2 ^ i ||| y = x * 2 ^ i + y := by
  have := Nat.shiftLeft_add_eq_or_of_lt (i := i) (b := y) h x
  rw [Nat.shiftLeft_eq] at this
  exact this.symm
theorem be4_eq {a b c d : Int} (ha : 0 ≤ a ∧ a ≤ 255) (hb : 0 ≤ b ∧ b ≤ 255) (hc : 0 ≤ c ∧ c ≤ 255) (hd : 0 ≤ d ∧ d ≤ 255) :
    be4 a b c d = BitVec.ofInt 32 ((((0 * 256 + a) * 256 + b) * 256 + c) * 256 + d) := by
  obtain ⟨a, rfl⟩ := Int.eq_ofNat_of_zero_le ha.1
  obtain ⟨b, rfl⟩ := Int.eq_ofNat_of_zero_le hb.1
  obtain ⟨c, rfl⟩ := Int.eq_ofNat_of_zero_le hc.1
  obtain ⟨d, rfl⟩ := Int.eq_ofNat_of_zero_le hd.1
  rw [show (((0 * 256 + (a : Int)) * 256 + b) * 256 + c) * 256 + d = ((((a * 256 + b) * 256 + c) * 256 + d : Nat) : Int) from by omega]
  apply BitVec.eq_of_toNat_eq
  simp only [be4, BitVec.ofInt_natCast, BitVec.toNat_or, BitVec.toNat_shiftLeft, BitVec.toNat_ofNat, Nat.shiftLeft_eq]
  rw [Nat.mod_eq_of_lt (a := a) (by omega), Nat.mod_eq_of_lt (a := b) (by omega), Nat.mod_eq_of_lt (a := c) (by omega), Nat.mod_eq_of_lt (a := d) (by omega)]
  rw [Nat.mod_eq_of_lt (a := a * 2 ^ 24) (by omega), Nat.mod_eq_of_lt (a := b * 2 ^ 16) (by omega), Nat.mod_eq_of_lt (a := c * 2 ^ 8) (by omega)]
  rw [or_sum a (b * 2 ^ 16) 24 (by omega), show a * 2 ^ 24 + b * 2 ^ 16 = (a * 256 + b) * 2 ^ 16 from by omega]
  rw [or_sum _ (c * 2 ^ 8) 16 (by omega), show (a * 256 + b) * 2 ^ 16 + c * 2 ^ 8 = ((a * 256 + b) * 256 + c) * 2 ^ 8 from by omega]
  rw [or_sum _ d 8 (by omega), Nat.mod_eq_of_lt (by omega)]

/-- The words of a block, by the reference. -/
def rnx (p : List Int) (ws : List W32) (t : Nat) : W32 :=
  if t < 16 then be4 (p.getD (4 * t) 0) (p.getD (4 * t + 1) 0) (p.getD (4 * t + 2) 0) (p.getD (4 * t + 3) 0)
  else rs1 (ws.getD (t - 2) 0) + ws.getD (t - 7) 0 + rs0 (ws.getD (t - 15) 0) + ws.getD (t - 16) 0
def rsch (p : List Int) : Nat → List W32
  | 0 => []
  | t + 1 => rsch p t ++ [rnx p (rsch p t) t]
theorem rsch_length (p : List Int) : ∀ i, (rsch p i).length = i
  | 0 => rfl
  | i + 1 => by rw [rsch, List.length_append, rsch_length p i]; rfl
theorem getD_of_lt {l : List Int} {i : Nat} (h : i < l.length) : l.getD i 0 = l[i] := by
  rw [List.getD_eq_getElem?_getD, List.getElem?_eq_getElem h]; rfl
theorem four_of {p : List Int} {t : Nat} (h : 4 * t + 4 ≤ p.length) : (p.drop (4 * t)).take 4 = [p.getD (4 * t) 0, p.getD (4 * t + 1) 0, p.getD (4 * t + 2) 0, p.getD (4 * t + 3) 0] := by
  rw [getD_of_lt (by omega), getD_of_lt (by omega), getD_of_lt (by omega), getD_of_lt (by omega)]
  rw [List.drop_eq_getElem_cons (by omega), List.take_succ_cons, List.drop_eq_getElem_cons (by omega), List.take_succ_cons, List.drop_eq_getElem_cons (by omega), List.take_succ_cons, List.drop_eq_getElem_cons (by omega), List.take_succ_cons, List.take_zero]
theorem nxt_eq (p : List Int) (hp : p.length = 64) (hb : ∀ z ∈ p, 0 ≤ z ∧ z ≤ 255) (ws : List W32) (t : Nat) : nxt p ws t = rnx p ws t := by
  unfold nxt rnx
  split
  · rename_i h
    have hm : ∀ i, i < 64 → 0 ≤ p.getD i 0 ∧ p.getD i 0 ≤ 255 := fun i hi => by rw [getD_of_lt (by omega)]; exact hb _ (List.getElem_mem _)
    rw [wordAt, four_of (by omega), be4_eq (hm _ (by omega)) (hm _ (by omega)) (hm _ (by omega)) (hm _ (by omega))]
    rfl
  · rw [sg0_eq, sg1_eq]
    ac_rfl
theorem sch_eq (p : List Int) (hp : p.length = 64) (hb : ∀ z ∈ p, 0 ≤ z ∧ z ≤ 255) : ∀ t, sch p t = rsch p t
  | 0 => rfl
  | t + 1 => by rw [sch, rsch, sch_eq p hp hb t, nxt_eq p hp hb]
/-- The reference's words of the rounds. -/
def wordsR : List W32 := [1116352408, 1899447441, 3049323471, 3921009573, 961987163, 1508970993, 2453635748, 2870763221,
  3624381080, 310598401, 607225278, 1426881987, 1925078388, 2162078206, 2614888103, 3248222580,
  3835390401, 4022224774, 264347078, 604807628, 770255983, 1249150122, 1555081692, 1996064986,
  2554220882, 2821834349, 2952996808, 3210313671, 3336571891, 3584528711, 113926993, 338241895,
  666307205, 773529912, 1294757372, 1396182291, 1695183700, 1986661051, 2177026350, 2456956037,
  2730485921, 2820302411, 3259730800, 3345764771, 3516065817, 3600352804, 4094571909, 275423344,
  430227734, 506948616, 659060556, 883997877, 958139571, 1322822218, 1537002063, 1747873779,
  1955562222, 2024104815, 2227730452, 2361852424, 2428436474, 2756734187, 3204031479, 3329325298]
def beginsR : List W32 := [1779033703, 3144134277, 1013904242, 2773480762, 1359893119, 2600822924, 528734635, 1541459225]
theorem wordsR_eq : (List.range 64).map kW = wordsR := by decide +kernel
theorem beginsR_eq : (List.range 8).map bW = beginsR := by decide +kernel
theorem kW_eq {t : Nat} (ht : t < 64) : kW t = wordsR.getD t 0 := by
  rw [← wordsR_eq, List.getD_eq_getElem?_getD, List.getElem?_map, List.getElem?_range ht]; rfl
theorem rvs_congr {K K' : Nat → W32} (ws h : List W32) : ∀ n, (∀ t, t < n → K t = K' t) → rvs K ws h n = rvs K' ws h n
  | 0, _ => rfl
  | n + 1, hk => by rw [rvs, rvs, rvs_congr ws h n (fun t ht => hk t (by omega)), hk n (by omega)]
/-- The words of a digest behind a block, by the reference. -/
def rblk (H : List W32) (p : List Int) : List W32 := sumsR H (rvs (fun t => wordsR.getD t 0) (rsch p 64) H 64)
theorem blk_eq (H : List W32) (h8 : H.length = 8) (p : List Int) (hp : p.length = 64) (hb : ∀ z ∈ p, 0 ≤ z ∧ z ≤ 255) : blk H p = rblk H p := by
  rw [blk, rblk, sch_eq p hp hb, addK_sums H _ (rvs kW (rsch p 64) H 64) h8 (fun i hi => rnds_eq kW _ H 64 i hi), rvs_congr _ H 64 fun t ht => kW_eq ht]
/-- For reckoning in the kernel: the same, the number of blocks as a numeral. -/
def rdigN : Nat → List Int → List W32 → List W32
  | 0, _, H => H
  | n + 1, m, H => rdigN n (m.drop 64) (rblk H (m.take 64))
theorem rblk_length (H : List W32) (p : List Int) : (rblk H p).length = 8 := by simp [rblk, sumsR]
theorem digN_eq : ∀ (n : Nat) (m : List Int) (H : List W32), H.length = 8 → 64 * n ≤ m.length → (∀ z ∈ m, 0 ≤ z ∧ z ≤ 255) → digN n m H = rdigN n m H
  | 0, _, _, _, _, _ => rfl
  | n + 1, m, H, h8, hm, hb => by
    rw [digN, rdigN, blk_eq H h8 _ (by rw [List.length_take]; omega) (fun z hz => hb z (List.mem_of_mem_take hz))]
    exact digN_eq n _ _ (rblk_length _ _) (by rw [List.length_drop]; omega) (fun z hz => hb z (List.mem_of_mem_drop hz))
theorem pad_length (l : List Int) : (pad l).length % 64 = 0 := by
  simp only [pad, List.length_append, List.length_cons, List.length_nil, List.length_replicate, beB_length]; unfold nz; omega
theorem digB_eq (l : List Int) (h : ∀ z ∈ l, 0 ≤ z ∧ z ≤ 255) : digB l = bytesW (rdigN ((pad l).length / 64) (pad l) beginsR) := by
  rw [digB, digest, beginsR_eq, digN_eq _ _ _ rfl (by have := pad_length l; omega) (pad_byte l h)]
theorem abc : (bytesW (rdigN ((pad [97, 98, 99]).length / 64) (pad [97, 98, 99]) beginsR)).take 4 = [186, 120, 22, 191] := by decide +kernel
theorem digB_abc : (digB [97, 98, 99]).take 4 = [186, 120, 22, 191] := by rw [digB_eq _ (by decide), abc]
end Go.Proofs.YtcjanieeepcddaaGreatDoor
