/-
  The contract of sha.Of: the digest of pieces.
-/
import Derived.Test.YtcjanieeepcddaaGreatDoorShaC
namespace Go.Proofs.YtcjanieeepcddaaGreatDoor
open Go.RowKit

/-- The eight words behind one block. -/
def blk (H : List W32) (p : List Int) : List W32 := addK H (rnds kW (sch p 64) (fun k => H.getD k 0) 64) 8
theorem blk_length (H : List W32) (p : List Int) : (blk H p).length = H.length := addK_length _ _ _
theorem block_list (B : Nat) (ht : TypeId) (H : List W32) (h8 : H.length = 8) (A : Option Addr) (c : Nat) (p : List Int) (w : World) (ha : Arg w 1 encB A 64 c p) (hall : ∀ z ∈ p, 0 ≤ z ∧ z ≤ 255)
    (hH : w.heap[B]? = some (.cells (wArr H) ht (0, 0))) :
    Calls Tryz.prog 181 #[.pointer (some ⟨B, 0, none⟩), .slice A 64 c] w fun e w' => e = .returned (.tuple #[]) ∧ w'.heap[B]? = some (.cells (wArr (blk H p)) ht (0, 0)) ∧ w.grownBy w' (some B) := by
  match H, h8 with
  | [h0, h1, h2, h3, h4, h5, h6, h7], _ => exact block_any B ht h0 h1 h2 h3 h4 h5 h6 h7 A c p w ha hall hH

/-- How many zeros stand behind a text of n bytes and its first mark. -/
def nz (n : Nat) : Nat := (119 - n % 64) % 64
/-- A text with its mark, its zeros and its length. -/
def pad (l : List Int) : List Int := l ++ [128] ++ List.replicate (nz l.length) 0 ++ beB ((l.length : Int) * 8) 8
theorem nz_lt (n : Nat) : nz n < 64 := by unfold nz; omega
theorem nz_end {n j : Nat} (hj : j ≤ nz n) (h : (n + 1 + j) % 64 = 56) : j = nz n := by unfold nz at *; omega
theorem nz_go {n j : Nat} (hj : j ≤ nz n) (h : (n + 1 + j) % 64 ≠ 56) : j < nz n := by unfold nz at *; omega

theorem pad_byte (l : List Int) (h : ∀ z ∈ l, 0 ≤ z ∧ z ≤ 255) : ∀ z ∈ pad l, 0 ≤ z ∧ z ≤ 255 := by
  intro z hz
  simp only [pad, List.mem_append, List.mem_singleton, List.mem_replicate] at hz
  rcases hz with ((hz | hz) | hz) | hz
  · exact h z hz
  · omega
  · omega
  · exact beB_byte _ _ z hz
theorem run_index_in (i : Nat) (H : List W32) (hH : H.length = 8) (hi : i < 8) (w : World) :
    (Instr.index 226 (.agg (wArr H)) (.int .i64 (i : Int))).run Tryz.prog w = .ok (w32 (H[i]'(by omega))) w := by
  have h : Tryz.prog.underlying 226 = some (.array 8 35) := by kernel_rfl
  have e : (wArr H)[i]? = some (w32 (H[i]'(by omega))) := by simp [wArr, hH, hi]
  simp [Instr.index, run_underlying h, asIntOf, go_sem, hi, e]
/-- The words' bytes, the high byte first. -/
def bytesW (H : List W32) : List Int := H.flatMap fun h => beB (h.toNat : Int) 4
def digN : Nat → List Int → List W32 → List W32
  | 0, _, H => H
  | n + 1, m, H => digN n (m.drop 64) (blk H (m.take 64))
theorem bytesW_length : ∀ H : List W32, (bytesW H).length = 4 * H.length
  | [] => rfl
  | h :: r => by
    have := bytesW_length r
    rw [bytesW] at this ⊢
    rw [List.flatMap_cons, List.length_append, beB_length, this, List.length_cons]; omega
theorem bytesW_snoc (H : List W32) (i : Nat) (hi : i < H.length) : bytesW (H.take (i + 1)) = bytesW (H.take i) ++ beB (wv H[i]) 4 := by
  rw [bytesW, List.take_succ_eq_append_getElem hi, List.flatMap_append]
  simp [bytesW, wv]
theorem bytesW_splice (H : List W32) (h8 : H.length = 8) (i : Nat) (hi : i < 8) (x : W32) (hx : H[i]'(by omega) = x) :
    splice ((bytesW (H.take i) ++ List.replicate (32 - 4 * i) 0).map (Value.int .u8)) (4 * i) ((beB (wv x) 4).map (Value.int .u8)) =
      (bytesW (H.take (i + 1)) ++ List.replicate (32 - 4 * (i + 1)) 0).map (Value.int .u8) := by
  have hl : (bytesW (H.take i)).length = 4 * i := by rw [bytesW_length, List.length_take]; omega
  rw [bytesW_snoc H i (by omega), hx, splice, ← List.map_take, ← List.map_drop, ← List.map_append, ← List.map_append, List.length_map, beB_length]
  congr 1
  rw [List.take_append_of_le_length (by omega), List.take_of_length_le (by omega), List.drop_append, List.drop_of_length_le (by omega), List.nil_append, hl, List.drop_replicate]
  rw [show 32 - 4 * i - (4 * i + 4 - 4 * i) = 32 - 4 * (i + 1) by omega, List.append_assoc]
theorem wpList_store_row {P : Program} {ops : Array Oper} {rest : List Oper} {op : Oper} {a : Act} {w : World} {Q : Exit → Act → World → Prop} (hgd : op.guard = none) (ty : TypeId) (x y : Operand) (ho : op.op = .store ty x y)
    (g : Nat) (t : TypeId) (cells cs : Array Value) (hx : a.eval x = .pointer (some ⟨g, 0, none⟩)) (hy : a.eval y = .agg cs) (hg : w.heap[g]? = some (.cells cells t (0, 0)))
    (hi : (P.info? ty).map (·.size) = some cs.size) (hs : cells.size = cs.size) (h1 : cs.all (·.oneCell') = true)
    (h : wpList P ops Q rest (a.put op.dst undef) (w.setRow g cs)) : wpList P ops Q (op :: rest) a w :=
  wpList_plain hgd fun K hK => by
    unfold Oper.wp execOp
    simp only [ho, hx, hy, Instr.storeAt, Instr.sureAddr, Sem.run_bind, Sem.run_pure, Result.andThen_ok, run_storeVar_row (P := P) w g t ty cells cs hg hi hs h1]
    exact hK _ _ h
theorem bArr_one (l : List Int) : (bArr l).all (·.oneCell') = true := by simp [bArr, Value.oneCell']
theorem bArr_size (l : List Int) : (bArr l).size = l.length := by simp [bArr]
theorem infoA32 : (Tryz.prog.info? 157).map (·.size) = some 32 := by kernel_rfl
theorem digN_length : ∀ (n : Nat) (m : List Int) (H : List W32), (digN n m H).length = H.length
  | 0, _, _ => rfl
  | n + 1, m, H => by rw [digN, digN_length n, blk_length]
/-- The words of a text's digest; its bytes. -/
def digest (l : List Int) : List W32 := digN ((pad l).length / 64) (pad l) ((List.range 8).map bW)
def digB (l : List Int) : List Int := bytesW (digest l)
theorem digest_length (l : List Int) : (digest l).length = 8 := by rw [digest, digN_length]; simp
theorem digB_length (l : List Int) : (digB l).length = 32 := by rw [digB, bytesW_length, digest_length]

set_option maxRecDepth 100000 in
set_option maxHeartbeats 4000000 in
theorem of_any (A : Option Addr) (n ca : Nat) (ps : List Pc) (w : World) (ha : Arg w 1 encP A n ca ps) (hok : PcsOk w ps) (hn : n ≤ 1000000) (hg : (glue ps).length ≤ 100000) (hby : ∀ z ∈ glue ps, 0 ≤ z ∧ z ≤ 255) :
    Calls Tryz.prog 124 #[.slice A n ca] w fun r w' => r = .returned (.agg (bArr (digB (glue ps)))) ∧ Below w.heap.size w w' := by
  obtain ⟨i0, hi, hz0, hz1, hz2⟩ := info_parts infoB
  have haH := Lib.hid ha
  have hokH := Lib.hid hok
  have hbyH := Lib.hid hby
  clear ha hok hby
  go_enter Tryz.func124, Tryz.ntmps124
  go_wp2_with fail
  have hr0 : (w.alloc (.cells (bArr (List.replicate 32 0)) 157)).heap[w.heap.size]? = some (.cells (bArr (List.replicate 32 0)) 157 (0, 0)) := heap_alloc_new w _
  have hb0 : Below w.heap.size w (w.alloc (.cells (bArr (List.replicate 32 0)) 157)) := (Below.refl _ w).alloc (Nat.le_refl _) _
  have hs0 : (w.alloc (.cells (bArr (List.replicate 32 0)) 157)).heap.size = w.heap.size + 1 := World.size_alloc _ _
  have HR0 : Keep (_ = _) := ⟨hr0⟩
  have HS0 : Keep (_ = _) := ⟨hs0⟩
  have HB0 := Lib.hid hb0
  clear hr0 hb0 hs0
  change Calls _ _ _ (w.alloc (.cells (bArr (List.replicate 32 0)) 157)) _
  generalize w.alloc (.cells (bArr (List.replicate 32 0)) 157) = w1 at *
  refine (join_any A n ca ps _ (haH.out.below HB0.out) (hokH.out.below HB0.out) hn (by omega)).mono ?_
  rintro e w2 ⟨A2, c2, rfl, ha2, hown2, hb2⟩
  obtain ⟨l, hl⟩ : ∃ l, glue ps = l := ⟨_, rfl⟩
  rw [hl] at ha2 hown2 hbyH hg ⊢
  have HL : Keep (glue ps = l) := ⟨hl⟩
  clear hl ha2
  have HO2 := Lib.hid hown2
  clear hown2
  go_wp2_with (first
    | (at_builtin; go_loud (refine wpList_append_own _ rfl _ _ 37 rfl w1.heap.size 5 i0 (.int .u8 0) 1 1 Tryz.underlying37 hi hz0 hz1 hz2 rfl (by decide) _ l.length _ rfl (HO2.out.alloc _) ⟨w2.heap.size, 0, none⟩ 1 1 [.int .u8 128] rfl (by exact rfl) (by exact new_row _ _ _) (by simp [Value.oneCell']) (by simp only [maxLen]; omega) (by omega) (by have := hb2.size; simp; omega) ?_); intro v3 w3 hown3 hgrow3 _))
  have hb3 : Below w1.heap.size w1 w3 := (hb2.alloc hb2.size _).grown hgrow3 (by have := hb2.size; simp; omega) (fun j e => (HO2.out.lt j e).1)
  have hown3' : w3.ownsRow w1.heap.size 5 1 v3 (l.length + 1) ((l ++ [128]).flatMap encB) := by rw [List.flatMap_append]; exact hown3
  have HO3 := Lib.hid hown3'
  clear hown3 hgrow3 hown3'
  go_loopw [3] (fun v wr => ∃ j T : Nat, j ≤ nz l.length ∧ Keep (T = l.length + 1 + j) ∧ T ≤ 100100 ∧ wr.ownsRow w1.heap.size 5 1 v T ((l ++ [128] ++ List.replicate j 0).flatMap encB) ∧ Below w1.heap.size w1 wr) (fun v _ => match v with | .slice _ n _ => 100200 - n | _ => 0)
  case atStart => exact ⟨0, l.length + 1, by omega, ⟨rfl⟩, by omega, by simpa using HO3.out, hb3⟩
  case round =>
    obtain ⟨j, T, hj, hT, hTs, hown, hb⟩ := hrel
    obtain ⟨Av, cv, rfl, hcv⟩ := own_slice hown
    have hnz := nz_lt l.length
    by_cases hend : T % 64 = 56
    · have hB : (((T : Nat) : Int) % 64 != 56) = false := by simp; omega
      have hjj : j = nz l.length := nz_end hj (by rw [← hT.out]; exact hend)
      have hjK : Keep (j = nz l.length) := ⟨hjj⟩
      have HO := Lib.hid hown
      clear hend hjj hown hnz
      have haP : Arg wr 1 encB Av T cv (l ++ [128] ++ List.replicate j 0) := by
        obtain ⟨A', c', e, h⟩ := Arg.of_own (by decide) encB_length HO.out
        cases e
        exact h
      have HaP := Lib.hid haP
      clear haP
      go_wp2_with fail
      refine (put8_any Av T cv 8 ((l.length : Int) * 8) _ _ HaP.out (by omega) (by omega) (by omega) (by omega) (by omega)).mono ?_
      rintro e w5 ⟨rfl, hm5, hb5⟩
      obtain ⟨m, hm⟩ : ∃ m, l ++ [128] ++ List.replicate j 0 ++ beB ((l.length : Int) * 8) 8 = m := ⟨_, rfl⟩
      rw [hm] at hm5
      have hmp : pad l = m := by rw [← hm, pad, hjK.out]
      have HM : Keep (pad l = m) := ⟨hmp⟩
      have hml : m.length = T + 8 := by rw [← hm, List.length_append, beB_length, HaP.out.hlen]
      have HML : Keep (m.length = T + 8) := ⟨hml⟩
      have HMB : Hid (∀ z ∈ m, 0 ≤ z ∧ z ≤ 255) := Lib.hid (by rw [← hmp]; exact pad_byte l hbyH.out)
      have hT64 : (T + 8) % 64 = 0 := by have := hT.out; have := hjK.out; unfold nz at this; omega
      have HT64 : Keep ((T + 8) % 64 = 0) := ⟨hT64⟩
      have HM5 : Keep (w5.heap[wr.heap.size]? = some (.cells (bArr m) 5 (0, 0))) := ⟨hm5⟩
      have hb15 : Below w1.heap.size w1 w5 := hb.trans (hb5.mono hb.size)
      have hs5 := hb5.size
      have hsr := hb.size
      clear hm hmp hml hT64 hm5 hB hb hb5
      go_wp2
      have hh0 : (w5.alloc (.cells (wArr (List.replicate 8 0)) 226)).heap[w5.heap.size]? = some (.cells (wArr (List.replicate 8 0)) 226 (0, 0)) := heap_alloc_new w5 _
      have hm0 : (w5.alloc (.cells (wArr (List.replicate 8 0)) 226)).heap[wr.heap.size]? = some (.cells (bArr m) 5 (0, 0)) := (Below.heap_alloc w5 _ _ (lt_of_block HM5.out)).trans HM5.out
      have hb6 : Below w1.heap.size w1 (w5.alloc (.cells (wArr (List.replicate 8 0)) 226)) := hb15.alloc hb15.size _
      have hs6 : (w5.alloc (.cells (wArr (List.replicate 8 0)) 226)).heap.size = w5.heap.size + 1 := World.size_alloc _ _
      have HH0 : Keep (_ = _) := ⟨hh0⟩
      have HM0 : Keep (_ = _) := ⟨hm0⟩
      have HS6 : Keep (_ = _) := ⟨hs6⟩
      have HB6 := Lib.hid hb6
      have hMH : wr.heap.size < w5.heap.size := lt_of_block HM5.out
      clear hh0 hm0 hb6 hs6 hb15 HM5
      change Code.wp _ _ _ _ (w5.alloc (.cells (wArr (List.replicate 8 0)) 226))
      generalize w5.alloc (.cells (wArr (List.replicate 8 0)) 226) = w6 at *
      generalize w5.heap.size = Hb at *
      generalize wr.heap.size = Mb at *
      go_loopw [6, 29] (fun _ i wr => ∃ k : Nat, k ≤ 8 ∧ i = .int .i64 k ∧ Keep (wr.heap[Hb]? = some (.cells (wArr ((List.range k).map bW ++ List.replicate (8 - k) 0)) 226 (0, 0))) ∧ Keep (wr.heap[Mb]? = some (.cells (bArr m) 5 (0, 0))) ∧ Below w1.heap.size w1 wr) (fun _ i _ => 8 - (intOf i).toNat)
      case atStart => exact ⟨0, by omega, rfl, ⟨by simpa using HH0.out⟩, ⟨HM0.out⟩, HB6.out⟩
      case round =>
        obtain ⟨k, hk, rfl, hh, hm, hb⟩ := hrel
        by_cases hlt : k < 8
        · have hlen : ((List.range k).map bW ++ List.replicate (8 - k) (0 : W32)).length = 8 := by simp; omega
          have cH := wArr_cell hh.out k (by omega)
          obtain ⟨y, hy⟩ : ∃ y, ((List.range k).map bW ++ List.replicate (8 - k) (0 : W32))[k]'(by omega) = y := ⟨_, rfl⟩
          rw [hy] at cH
          have fH := wArr_free hh.out k
          have hHl := lt_of_block hh.out
          have hset : ∀ v, ((List.range k).map bW ++ List.replicate (8 - k) (0 : W32)).set k v = (List.range k).map bW ++ [v] ++ List.replicate (8 - (k + 1)) 0 := fun v => by
            have := setW_mid ((List.range k).map bW) (8 - (k + 1)) v
            rw [List.length_map, List.length_range, show 8 - (k + 1) + 1 = 8 - k by omega] at this
            exact this
          have HSet := Lib.hid hset
          clear hlen hy hset
          go_wp2_with (first
            | (go_at_call 180; go_loud (refine (word_any _ beginsL 8 k ?_ (by decide) beginsL_length hlt beginsL_hex _).mono ?_); (· kernel_rfl); rintro e w7 ⟨rfl, hb7⟩; have cH7 := (hb7.cell (p := ⟨Hb, k, none⟩) hHl).trans cH; have fH7 := (hb7.frozen (p := ⟨Hb, k, none⟩) hHl).trans fH)
            | fail)
          go_roundw
          case rel =>
            refine ⟨k + 1, by omega, by go_num, ⟨?_⟩, ⟨?_⟩, (hb.trans (hb7.mono hb.size)).setCell (p := ⟨Hb, k, none⟩) (by show _ ≤ Hb; omega) _⟩
            · have h7 := wArr_set ((hb7.block _ hHl).trans hh.out) k (bW k)
              rw [HSet.out] at h7
              rw [List.range_succ, List.map_append]
              exact h7
            · rw [Below.heap_setCell _ _ _ _ (by show Mb ≠ Hb; omega), hb7.block _ (lt_of_block hm.out)]
              exact hm.out
          case measure => simp [intOf] <;> omega
        · have hk8 : k = 8 := by omega
          have hH8 : Keep (wr.heap[Hb]? = some (.cells (wArr ((List.range 8).map bW)) 226 (0, 0))) := ⟨by have h := hh.out; rw [hk8] at h; simpa using h⟩
          clear hh hk8
          go_wp2_with fail
          go_loopw [3] (fun v wr => ∃ (A : Option Addr) (off n : Nat) (H : List W32), v = .slice A n n ∧ (0 < n → A = some ⟨Mb, off, none⟩) ∧ Keep (n % 64 = 0) ∧ Keep (off + n = T + 8) ∧ Keep (H.length = 8) ∧ Keep (wr.heap[Hb]? = some (.cells (wArr H) 226 (0, 0))) ∧ Keep (wr.heap[Mb]? = some (.cells (bArr m) 5 (0, 0))) ∧ Keep (digN (n / 64) (m.drop off) H = digN ((T + 8) / 64) m ((List.range 8).map bW)) ∧ Below w1.heap.size w1 wr) (fun v _ => match v with | .slice _ n _ => n | _ => 0)
          case atStart => exact ⟨_, 0, T + 8, _, rfl, fun _ => rfl, HT64, ⟨by omega⟩, ⟨by simp⟩, hH8, hm, ⟨by simp⟩, hb⟩
          case round =>
            obtain ⟨A, off, n, H, rfl, hA, hn64, hon, hHl, hH, hM, hD, hb⟩ := hrel
            by_cases hpos : 0 < n
            · have hge : 64 ≤ n := by have := hn64.out; omega
              obtain rfl := hA hpos
              clear hA
              go_wp2_with fail
              have hb6 := hb
              have hown := bArr_own hM.out (base := Mb) (Nat.le_refl _) (by rw [HML.out]; simp only [maxLen]; omega)
              obtain ⟨A', c', e', hA'⟩ := Arg.of_own (by decide) encB_length hown
              rw [HML.out] at e' hA'
              cases e'
              have hAc := hA'.cut (i := off) (j := off + 64) (m := 64) (c := n) (by omega) (by have := hon.out; omega) (by have := hon.out; omega) (by omega) (by have := hon.out; omega)
              rw [Nat.zero_add] at hAc
              refine (block_list Hb _ H hHl.out _ n _ wr hAc (fun z hz => HMB.out z (List.mem_of_mem_drop (List.mem_of_mem_take hz))) hH.out).mono ?_
              rintro e w7 ⟨rfl, hH7, hg7⟩
              clear hown hAc hA'
              have HH7 : Keep (_ = _) := ⟨hH7⟩
              have HG7 := Lib.hid hg7
              clear hH7 hg7
              go_wp2_with fail
              go_roundw
              case rel =>
                have hon' := hon.out
                have hn' := hn64.out
                have hsz : Mb < wr.heap.size := lt_of_block hM.out
                refine ⟨_, off + 64, n - 64, blk H ((m.drop off).take 64), rfl, fun h => ?_, ⟨by omega⟩, ⟨by omega⟩, ⟨by rw [blk_length]; exact hHl.out⟩, HH7, ⟨?_⟩, ⟨?_⟩, ?_⟩
                · exact if_neg (by omega)
                · exact (HG7.out.block Mb hsz (by simp; omega)).trans hM.out
                · have e : n / 64 = (n - 64) / 64 + 1 := by omega
                  have h := hD.out
                  rw [e, digN, List.drop_drop] at h
                  exact h
                · exact hb6.grown HG7.out hb6.size (fun j e => by cases e; omega)
              case measure => show n - 64 < n; omega
            · have hn0 : n = 0 := by omega
              subst hn0
              have hD' : Keep (H = digN ((T + 8) / 64) m ((List.range 8).map bW)) := ⟨by have h := hD.out; simpa [digN] using h⟩
              clear hD
              have hHlt := lt_of_block hH.out
              have H8 : Hid ((Tryz.prog.info? 226).map (·.size) = some (wArr H).size) := Lib.hid (by
                have : (wArr H).size = 8 := by simp [wArr, hHl.out]
                rw [this]; exact infoA8)
              have HB7 := Lib.hid hb
              clear hb
              go_wp2_with (first
                | (refine wpList_load_row rfl 226 _ rfl Hb rfl 226 (wArr H) (0, 0) _ ((Below.heap_alloc _ _ _ hHlt).trans hH.out) Tryz.underlying226 rfl H8.out ?_)
                | fail)
              have hd0 : (wr.alloc (.cells (bArr (List.replicate 32 0)) 157)).heap[wr.heap.size]? = some (.cells (bArr (List.replicate 32 0)) 157 (0, 0)) := heap_alloc_new wr _
              have hb8 : Below w1.heap.size w1 (wr.alloc (.cells (bArr (List.replicate 32 0)) 157)) := HB7.out.alloc HB7.out.size _
              have hs8 : (wr.alloc (.cells (bArr (List.replicate 32 0)) 157)).heap.size = wr.heap.size + 1 := World.size_alloc _ _
              have hsD := HB7.out.size
              have HD0 : Keep (_ = _) := ⟨hd0⟩
              have HS8 : Keep (_ = _) := ⟨hs8⟩
              have HB8 := Lib.hid hb8
              clear hd0 hb8 hs8
              change Code.wp _ _ _ _ (wr.alloc (.cells (bArr (List.replicate 32 0)) 157))
              generalize wr.alloc (.cells (bArr (List.replicate 32 0)) 157) = w8 at *
              generalize wr.heap.size = Db at *
              go_loopw [8, 9, 46] (fun _ _ iv wr => ∃ i : Nat, i ≤ 8 ∧ iv = .int .i64 i ∧ Keep (wr.heap[Db]? = some (.cells (bArr (bytesW (H.take i) ++ List.replicate (32 - 4 * i) 0)) 157 (0, 0))) ∧ Below w1.heap.size w1 wr) (fun _ _ iv _ => 8 - (intOf iv).toNat)
              case atStart => exact ⟨0, by omega, rfl, ⟨by simpa [bytesW] using HD0.out⟩, HB8.out⟩
              case round =>
                obtain ⟨i, hi8, rfl, hD8, hb⟩ := hrel
                by_cases hlt : i < 8
                · have hHB := Lib.hid hb
                  clear hb
                  have hIx := fun w' => run_index_in i H hHl.out hlt w'
                  obtain ⟨x, hx⟩ : ∃ x, H[i]'(by have := hHl.out; omega) = x := ⟨_, rfl⟩
                  rw [hx] at hIx
                  have HX : Keep (H[i]'(by have := hHl.out; omega) = x) := ⟨hx⟩
                  clear hx
                  have hcv : IntKind.u64.wrap (wv x) = wv x := by rw [IntKind.wrap_u64]; have := wv_lo x; have := wv_hi x; omega
                  have hM4 : IntKind.i64.wrap (4 * (i : Int)) = 4 * (i : Int) := IntWalk.i64_in _ (by omega)
                  have hM0 : (0 : Int) ≤ 4 * (i : Int) := by omega
                  have hM1 : 4 * (i : Int) ≤ 32 := by omega
                  have hMt : (4 * (i : Int)).toNat = 4 * i := by omega
                  have hDl := lt_of_block hD8.out
                  go_wp2_with fail
                  have hsz1 : Hid ((Tryz.prog.info? 5).map (·.size) = some 1) := Lib.hid (by rw [hi]; simp [hz1])
                  go_region_held3 (fun W => Below w1.heap.size w1 W) (first | with_reducible assumption | with_reducible exact hHB.out.drew) (first
                    | (go_at_call 175; refine (put8_any none 0 0 4 (wv x) [] _ (Arg.nil _ _ _) (by omega) (by omega) (by omega) (wv_lo x) (by have := wv_hi x; omega)).mono ?_; rintro e w5 ⟨rfl, hm5, hb5⟩; have hW5 := hHB.out.drew.trans (hb5.mono hHB.out.size); have HM5 : Keep (_ = _) := ⟨hm5⟩; clear hm5; have HD5 : Keep (w5.heap[Db]? = some (.cells (bArr (bytesW (H.take i) ++ List.replicate (32 - 4 * i) 0)) 157 (0, 0))) := ⟨(hb5.block _ hDl).trans hD8.out⟩)
                    | (refine step_copy_splice rfl (.tmp 52) (.tmp 55) 37 37 rfl 5 Tryz.underlying37 hsz1.out _ _ _ _ _ _ rfl rfl Db (4 * i) ((bytesW (H.take i) ++ List.replicate (32 - 4 * i) 0).map (Value.int .u8)) 157 HD5.out ((beB (wv x) 4).map (Value.int .u8)) ?_ ?_ ?_ ?_ w1.heap.size w1 hW5 hsD ?_
                       · rw [List.length_map, beB_length]; exact (Nat.min_eq_left (by omega)).symm
                       · intro _
                         refine ⟨rfl, _, rfl, fun j v hv => ?_⟩
                         have hc := cell_of_row w5 wr.heap.size j _ _ _ HM5.out
                         rw [show (⟨wr.heap.size, 0, none⟩ : Addr).add j = ⟨wr.heap.size, j, none⟩ from by unfold Addr.add; split <;> simp_all, hc, ← hv]
                         simp [bArr]
                       · rw [List.length_map, List.length_map, List.length_append, bytesW_length, List.length_take, beB_length, List.length_replicate, hHl.out]; omega
                       · intro v hv
                         obtain ⟨z, _, rfl⟩ := List.mem_map.1 hv
                         rfl
                       rw [bytesW_splice H hHl.out i hlt x HX.out]
                       intro w6 hg6 hb6)
                    | fail)
                  go_wp2_with fail
                  go_roundw
                  case rel => exact ⟨i + 1, by omega, by go_num, ⟨hg6.out⟩, hb6⟩
                  case measure => simp [intOf] <;> omega
                · obtain rfl : i = 8 := by omega
                  have hD9 : Keep (wr.heap[Db]? = some (.cells (bArr (bytesW H)) 157 (0, 0))) := ⟨by have h := hD8.out; rw [List.take_of_length_le (by have := hHl.out; omega)] at h; simpa using h⟩
                  clear hD8
                  have hlen : (bytesW H).length = 32 := by rw [bytesW_length, hHl.out]
                  have H32 : Hid ((Tryz.prog.info? 157).map (·.size) = some (bArr (bytesW H)).size) := Lib.hid (by rw [bArr_size, hlen]; exact infoA32)
                  have HR9 : Keep (wr.heap[w.heap.size]? = some (.cells (bArr (List.replicate 32 0)) 157 (0, 0))) := ⟨(hb.block _ (by have := HS0.out; omega)).trans HR0.out⟩
                  have hsz : (bArr (List.replicate 32 0)).size = (bArr (bytesW H)).size := by rw [bArr_size, bArr_size, hlen]; rfl
                  have HSz := Lib.hid hsz
                  have HB9 := Lib.hid hb
                  clear hlen hsz hb
                  go_wp2_with (first
                    | (refine wpList_load_row rfl 157 _ rfl Db rfl 157 (bArr (bytesW H)) (0, 0) _ hD9.out Tryz.underlying157 rfl H32.out ?_)
                    | (refine wpList_store_row rfl 157 _ _ rfl w.heap.size 157 (bArr (List.replicate 32 0)) (bArr (bytesW H)) rfl rfl HR9.out H32.out HSz.out (bArr_one _) ?_)
                    | fail)
                  have hHD : H = digest (glue ps) := by rw [HL.out, digest, HM.out, HML.out]; exact hD'.out
                  refine bodyPost_ret (v := .agg (bArr (bytesW H))) (results_cell_row (t := 157) (fr := (0, 0)) (d := .array 32 5) Tryz.results124 _ _ w.heap.size _ rfl (setRow_heap _ _ _ _ _ _ HR9.out) Tryz.underlying157 rfl H32.out) rfl ⟨by rw [hHD, digB], ?_⟩
                  exact (HB0.out.trans (HB9.out.mono HB0.out.size)).trans (below_setRow (Below.refl _ _) (Nat.le_refl _) _)
    · have hB : (((T : Nat) : Int) % 64 != 56) = true := by simp; omega
      have hlt := nz_go hj (by rw [← hT.out]; exact hend)
      have HO := Lib.hid hown
      clear hend
      go_wp2_with (first
        | (at_builtin; go_loud (refine wpList_append_own _ rfl _ _ 37 rfl w1.heap.size 5 i0 (.int .u8 0) 1 1 Tryz.underlying37 hi hz0 hz1 hz2 rfl (by decide) (.slice Av T cv) T _ rfl (HO.out.alloc _) ⟨wr.heap.size, 0, none⟩ 1 1 [.int .u8 0] rfl (by exact rfl) (by exact new_row _ _ _) (by simp [Value.oneCell']) (by simp only [maxLen]; omega) (by omega) (by have := hb.size; simp; omega) ?_); intro v4 w4 hown4 hgrow4 _))
      have hb4 : Below w1.heap.size w1 w4 := (hb.alloc hb.size _).grown hgrow4 (by have := hb.size; simp; omega) (fun j e => (HO.out.lt j e).1)
      obtain ⟨A4, c4, rfl, _⟩ := own_slice hown4
      have HO4 := Lib.hid hown4
      clear hown4 hgrow4
      go_roundw
      case rel =>
        refine ⟨j + 1, T + 1, by omega, ⟨by have := hT.out; omega⟩, by have := hT.out; omega, ?_, hb4⟩
        have h := HO4.out
        rw [List.replicate_succ', ← List.append_assoc, List.flatMap_append]
        exact h
      case measure => have := hT.out; show 100200 - (T + 1) < 100200 - T; omega
end Go.Proofs.YtcjanieeepcddaaGreatDoor
