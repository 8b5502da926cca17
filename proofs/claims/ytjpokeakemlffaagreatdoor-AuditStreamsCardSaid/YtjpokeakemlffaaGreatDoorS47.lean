/-
  Walks and laws, one behind the other (part 47).
-/
import Derived.Test.YtjpokeakemlffaaGreatDoorS6
import Derived.Test.YtjpokeakemlffaaGreatDoorS8
set_option linter.unusedSimpArgs false
set_option linter.unusedVariables false
/-
  audit.Sound of any entries.
-/
namespace Go.Proofs.YtjpokeakemlffaaGreatDoor
open Go.RowKit
def okB (first : Bool) (pt : Int) (x : TkE) : Bool := (first || decide (pt < x.t)) && (if x.l then decide (0 < x.o) && decide (x.u = 0) else decide (x.o = 0) && decide (0 < x.u))
def okJ (l : List TkE) (j : Nat) : Bool :=
  match l[j]? with
  | some x => okB (j == 0) (match l[j - 1]? with | some p => p.t | none => 0) x
  | none => true
def sndN (l : List TkE) : Nat → Bool
  | 0 => true
  | j + 1 => sndN l j && okJ l j
theorem sndN_false {l : List TkE} {j : Nat} (h : okJ l j = false) : ∀ n, j < n → sndN l n = false
  | 0, hj => by omega
  | n + 1, hj => by
    rw [sndN]
    rcases Nat.lt_or_ge j n with h1 | h1
    · rw [sndN_false h n h1]; rfl
    · obtain rfl : j = n := by omega
      rw [h, Bool.and_false]
theorem okJ_zero {l : List TkE} {x : TkE} (h : l[0]? = some x) : okJ l 0 = okB true 0 x := by
  unfold okJ
  rw [h]
  simp only [okB, beq_self_eq_true, Bool.true_or]
theorem okJ_succ {l : List TkE} {i : Nat} {p x : TkE} (hp : l[i]? = some p) (h : l[i + 1]? = some x) : okJ l (i + 1) = okB false p.t x := by
  unfold okJ
  rw [h, show i + 1 - 1 = i from rfl, hp]
  rfl
theorem Rd.tok {w : World} {B : Nat} {A : Option Addr} {l : List TkE} (h : Rd w B 4 tkC A l) (hl : l ≠ []) : ∃ b off, A = some ⟨b, off, none⟩ ∧ b < B ∧ ∀ k x, l[k]? = some x → w.cell? ⟨b, off + k * 4, none⟩ = some (.int .u32 x.t) ∧ w.cell? ⟨b, off + k * 4 + 1, none⟩ = some (.int .i64 x.o) ∧ w.cell? ⟨b, off + k * 4 + 2, none⟩ = some (.bool x.l) ∧ w.cell? ⟨b, off + k * 4 + 3, none⟩ = some (.int .i64 x.u) := by
  obtain ⟨b, off, e, hb, hc⟩ := h hl
  exact ⟨b, off, e, hb, fun k x hk => ⟨hc k x hk 0 _ rfl, hc k x hk 1 _ rfl, hc k x hk 2 _ rfl, hc k x hk 3 _ rfl⟩⟩
theorem six (xo xu : Int) (xl : Bool) : (xl = true ∧ xo ≤ 0) ∨ (xl = true ∧ 0 < xo ∧ xu ≠ 0) ∨ (xl = true ∧ 0 < xo ∧ xu = 0) ∨ (xl = false ∧ xo ≠ 0) ∨ (xl = false ∧ xo = 0 ∧ xu ≤ 0) ∨ (xl = false ∧ xo = 0 ∧ 0 < xu) := by
  cases xl
  · simp only [Bool.false_eq_true, false_and, true_and, false_or]
    omega
  · simp only [Bool.true_eq_false, false_and, true_and, or_false]
    omega
set_option maxRecDepth 100000 in
set_option maxHeartbeats 12800000 in
theorem sound_any {w : World} {A : Option Addr} {n c : Nat} (l : List TkE) (cap : Int) (ha : Arg w 4 tkC A n c l) (hn : n ≤ 1000) :
    Calls Tryz.prog 13 #[.slice A n c, .int .i64 cap] w fun e w' => e = .returned (.bool (sndN l n && decide ((n : Int) ≤ cap))) ∧ Below w.heap.size w w' := by
  have HA := Keep.mk ha
  have HL := Keep.mk ha.hlen
  have HB0 : Keep (Below w.heap.size w w) := ⟨Below.refl _ w⟩
  clear ha
  go_enter Tryz.func13, Tryz.ntmps13
  go_wp2_with fail
  go_loopw [9] (fun I wr => ∃ j : Nat, j ≤ n ∧ I = .int .i64 j ∧ Keep (Below w.heap.size w wr) ∧ Keep (sndN l j = true)) (fun i _ => n - (intOf i).toNat)
  case atStart => exact ⟨0, by omega, rfl, HB0, ⟨rfl⟩⟩
  case round =>
    obtain ⟨j, hj, rfl, HB, HS⟩ := hrel
    rcases Nat.lt_or_ge j n with hlt | hge
    · obtain ⟨⟨xt, xo, xl, xu⟩, hx⟩ : ∃ x, l[j]? = some x := ⟨_, List.getElem?_eq_getElem (by rw [HL.out]; exact hlt)⟩
      obtain ⟨g, off, rfl, hg, hcs⟩ := HA.out.rd.tok (by intro e; rw [e] at hx; simp at hx)
      have HLT := Keep.mk hlt
      have hlti : ((j : Nat) : Int) < (n : Int) := by omega
      rcases j with _ | i
      · obtain ⟨r0, r1, r2, r3⟩ := hcs 0 _ hx
        rw [Nat.zero_mul, Nat.add_zero] at r0 r1 r2 r3
        have q0 : wr.cell? ⟨g, off, none⟩ = some (.int .u32 xt) := (HB.out.cell (p := ⟨g, off, none⟩) hg).trans r0
        have q1 : wr.cell? ⟨g, off + 1, none⟩ = some (.int .i64 xo) := (HB.out.cell (p := ⟨g, off + 1, none⟩) hg).trans r1
        have q2 : wr.cell? ⟨g, off + 2, none⟩ = some (.bool xl) := (HB.out.cell (p := ⟨g, off + 2, none⟩) hg).trans r2
        have q3 : wr.cell? ⟨g, off + 3, none⟩ = some (.int .i64 xu) := (HB.out.cell (p := ⟨g, off + 3, none⟩) hg).trans r3
        obtain ⟨W, hW⟩ : ∃ W, wr.alloc (.cells #[.int .u32 xt, .int .i64 xo, .bool xl, .int .i64 xu] 50) = W := ⟨_, rfl⟩
        have NB : Bk W wr.heap.size #[.int .u32 xt, .int .i64 xo, .bool xl, .int .i64 xu] 50 := hW ▸ Bk.new wr _ _
        have s0 : W.cell? ⟨wr.heap.size, 0, none⟩ = some (.int .u32 xt) := NB.c 0
        have s1 : W.cell? ⟨wr.heap.size, 1, none⟩ = some (.int .i64 xo) := NB.c 1
        have s2 : W.cell? ⟨wr.heap.size, 2, none⟩ = some (.bool xl) := NB.c 2
        have s3 : W.cell? ⟨wr.heap.size, 3, none⟩ = some (.int .i64 xu) := NB.c 3
        have BW : Keep (∀ q, Below w.heap.size w (W.drewN q)) := ⟨fun q => below_drewN (hW ▸ HB.out.alloc HB.out.size _) q⟩
        have hpos : decide ((0 : Int) < ((0 : Nat) : Int)) = false := by decide
        clear hcs r0 r1 r2 r3 NB s0
        rcases six xo xu xl with ⟨rfl, h1⟩ | ⟨rfl, h1, h2⟩ | ⟨rfl, h1, h2⟩ | ⟨rfl, h1⟩ | ⟨rfl, rfl, h2⟩ | ⟨rfl, rfl, h2⟩
        · have hok : (decide (0 < xo) && decide (xu = 0)) = false := by simp <;> omega
          have HJ : Keep (okJ l 0 = false) := ⟨by rw [okJ_zero hx]; simp only [okB, Bool.true_or, Bool.true_and, if_true, Bool.false_eq_true, if_false]; exact hok⟩
          have d1 : decide (xo ≤ 0) = true := by simp [h1]
          have d2 : decide (0 < xo) = false := by simp <;> omega
          clear hok h1 hx
          go_wp2_with fail
          go_quiet (fail)
          have t1 : (W.drewN nq).cell? ⟨wr.heap.size, 1, none⟩ = _ := s1
          have t2 : (W.drewN nq).cell? ⟨wr.heap.size, 2, none⟩ = _ := s2
          have t3 : (W.drewN nq).cell? ⟨wr.heap.size, 3, none⟩ = _ := s3
          go_wp2_with fail
          go_ret
          exact ⟨by rw [sndN_false HJ.out n HLT.out]; rfl, BW.out _⟩
        · have hok : (decide (0 < xo) && decide (xu = 0)) = false := by simp [h2]
          have HJ : Keep (okJ l 0 = false) := ⟨by rw [okJ_zero hx]; simp only [okB, Bool.true_or, Bool.true_and, if_true, Bool.false_eq_true, if_false]; exact hok⟩
          have d1 : decide (xo ≤ 0) = false := by simp <;> omega
          have d2 : decide (0 < xo) = true := by simp [h1]
          have d3 : (xu == 0) = false := by simp [h2]
          have d4 : (xu != 0) = true := by simp [h2]
          clear hok h1 h2 hx
          go_wp2_with fail
          go_quiet (fail)
          have t1 : (W.drewN nq).cell? ⟨wr.heap.size, 1, none⟩ = _ := s1
          have t2 : (W.drewN nq).cell? ⟨wr.heap.size, 2, none⟩ = _ := s2
          have t3 : (W.drewN nq).cell? ⟨wr.heap.size, 3, none⟩ = _ := s3
          go_wp2_with fail
          go_ret
          exact ⟨by rw [sndN_false HJ.out n HLT.out]; rfl, BW.out _⟩
        · have hok : (decide (0 < xo) && decide (xu = 0)) = true := by simp [h1, h2]
          have HJ : Keep (okJ l 0 = true) := ⟨by rw [okJ_zero hx]; simp only [okB, Bool.true_or, Bool.true_and, if_true, Bool.false_eq_true, if_false]; exact hok⟩
          have d1 : decide (xo ≤ 0) = false := by simp <;> omega
          have d2 : decide (0 < xo) = true := by simp [h1]
          have d3 : (xu == 0) = true := by simp [h2]
          have d4 : (xu != 0) = false := by simp [h2]
          clear hok h1 h2 hx
          go_wp2_with fail
          go_quiet (fail)
          have t1 : (W.drewN nq).cell? ⟨wr.heap.size, 1, none⟩ = _ := s1
          have t2 : (W.drewN nq).cell? ⟨wr.heap.size, 2, none⟩ = _ := s2
          have t3 : (W.drewN nq).cell? ⟨wr.heap.size, 3, none⟩ = _ := s3
          go_wp2_with fail
          go_roundw
          case rel => exact ⟨0 + 1, by omega, by go_num, ⟨BW.out _⟩, ⟨by rw [sndN, HS.out, HJ.out]; rfl⟩⟩
          case measure => simp [intOf] <;> omega
        · have hok : (decide (xo = 0) && decide (0 < xu)) = false := by simp [h1]
          have HJ : Keep (okJ l 0 = false) := ⟨by rw [okJ_zero hx]; simp only [okB, Bool.true_or, Bool.true_and, if_true, Bool.false_eq_true, if_false]; exact hok⟩
          have d1 : (xo == 0) = false := by simp [h1]
          have d2 : (xo != 0) = true := by simp [h1]
          clear hok h1 hx
          go_wp2_with fail
          go_quiet (fail)
          have t1 : (W.drewN nq).cell? ⟨wr.heap.size, 1, none⟩ = _ := s1
          have t2 : (W.drewN nq).cell? ⟨wr.heap.size, 2, none⟩ = _ := s2
          have t3 : (W.drewN nq).cell? ⟨wr.heap.size, 3, none⟩ = _ := s3
          go_wp2_with fail
          go_ret
          exact ⟨by rw [sndN_false HJ.out n HLT.out]; rfl, BW.out _⟩
        · have hok : (decide ((0 : Int) = 0) && decide (0 < xu)) = false := by simp <;> omega
          have HJ : Keep (okJ l 0 = false) := ⟨by rw [okJ_zero hx]; simp only [okB, Bool.true_or, Bool.true_and, if_true, Bool.false_eq_true, if_false]; exact hok⟩
          have d1 : decide (xu ≤ 0) = true := by simp [h2]
          have d2 : decide (0 < xu) = false := by simp <;> omega
          clear hok h2 hx
          go_wp2_with fail
          go_quiet (fail)
          have t1 : (W.drewN nq).cell? ⟨wr.heap.size, 1, none⟩ = _ := s1
          have t2 : (W.drewN nq).cell? ⟨wr.heap.size, 2, none⟩ = _ := s2
          have t3 : (W.drewN nq).cell? ⟨wr.heap.size, 3, none⟩ = _ := s3
          go_wp2_with fail
          go_ret
          exact ⟨by rw [sndN_false HJ.out n HLT.out]; rfl, BW.out _⟩
        · have hok : (decide ((0 : Int) = 0) && decide (0 < xu)) = true := by simp [h2]
          have HJ : Keep (okJ l 0 = true) := ⟨by rw [okJ_zero hx]; simp only [okB, Bool.true_or, Bool.true_and, if_true, Bool.false_eq_true, if_false]; exact hok⟩
          have d1 : decide (xu ≤ 0) = false := by simp <;> omega
          have d2 : decide (0 < xu) = true := by simp [h2]
          clear hok h2 hx
          go_wp2_with fail
          go_quiet (fail)
          have t1 : (W.drewN nq).cell? ⟨wr.heap.size, 1, none⟩ = _ := s1
          have t2 : (W.drewN nq).cell? ⟨wr.heap.size, 2, none⟩ = _ := s2
          have t3 : (W.drewN nq).cell? ⟨wr.heap.size, 3, none⟩ = _ := s3
          go_wp2_with fail
          go_roundw
          case rel => exact ⟨0 + 1, by omega, by go_num, ⟨BW.out _⟩, ⟨by rw [sndN, HS.out, HJ.out]; rfl⟩⟩
          case measure => simp [intOf] <;> omega
      · obtain ⟨r0, r1, r2, r3⟩ := hcs (i + 1) _ hx
        have q0 : wr.cell? ⟨g, off + (i + 1) * 4, none⟩ = some (.int .u32 xt) := (HB.out.cell (p := ⟨g, off + (i + 1) * 4, none⟩) hg).trans r0
        have q1 : wr.cell? ⟨g, off + (i + 1) * 4 + 1, none⟩ = some (.int .i64 xo) := (HB.out.cell (p := ⟨g, off + (i + 1) * 4 + 1, none⟩) hg).trans r1
        have q2 : wr.cell? ⟨g, off + (i + 1) * 4 + 2, none⟩ = some (.bool xl) := (HB.out.cell (p := ⟨g, off + (i + 1) * 4 + 2, none⟩) hg).trans r2
        have q3 : wr.cell? ⟨g, off + (i + 1) * 4 + 3, none⟩ = some (.int .i64 xu) := (HB.out.cell (p := ⟨g, off + (i + 1) * 4 + 3, none⟩) hg).trans r3
        obtain ⟨W, hW⟩ : ∃ W, wr.alloc (.cells #[.int .u32 xt, .int .i64 xo, .bool xl, .int .i64 xu] 50) = W := ⟨_, rfl⟩
        have NB : Bk W wr.heap.size #[.int .u32 xt, .int .i64 xo, .bool xl, .int .i64 xu] 50 := hW ▸ Bk.new wr _ _
        have s0 : W.cell? ⟨wr.heap.size, 0, none⟩ = some (.int .u32 xt) := NB.c 0
        have s1 : W.cell? ⟨wr.heap.size, 1, none⟩ = some (.int .i64 xo) := NB.c 1
        have s2 : W.cell? ⟨wr.heap.size, 2, none⟩ = some (.bool xl) := NB.c 2
        have s3 : W.cell? ⟨wr.heap.size, 3, none⟩ = some (.int .i64 xu) := NB.c 3
        have BW : Keep (∀ q, Below w.heap.size w (W.drewN q)) := ⟨fun q => below_drewN (hW ▸ HB.out.alloc HB.out.size _) q⟩
        obtain ⟨p, hp⟩ : ∃ p, l[i]? = some p := ⟨_, List.getElem?_eq_getElem (by rw [HL.out]; omega)⟩
        have p0 : W.cell? ⟨g, off + i * 4, none⟩ = some (.int .u32 p.t) := by
          have hlt' : g < wr.heap.size := Nat.lt_of_lt_of_le hg HB.out.size
          rw [← hW, World.cell?_alloc_lt wr _ ⟨g, off + i * 4, none⟩ hlt']
          exact (HB.out.cell (p := ⟨g, off + i * 4, none⟩) hg).trans (hcs i p hp).1
        have e1 : IntKind.i64.wrap (((i + 1 : Nat) : Int) - 1) = (i : Int) := by rw [IntWalk.i64_in _ (by omega)]; omega
        have hpos : decide ((0 : Int) < ((i + 1 : Nat) : Int)) = true := by simp <;> omega
        have hltp : ((i : Nat) : Int) < (n : Int) := by omega
        obtain ⟨pt, hpt⟩ : ∃ pt, p.t = pt := ⟨_, rfl⟩
        rw [hpt] at p0
        have HP := Keep.mk hpt
        rcases Int.lt_or_le pt xt with hd | hd
        · have hlt_t : decide (p.t < xt) = true := by rw [hpt]; simp [hd]
          have hd2 : decide (xt ≤ pt) = false := by simp <;> omega
          clear hcs r0 r1 r2 r3 NB hpt
          rcases six xo xu xl with ⟨rfl, h1⟩ | ⟨rfl, h1, h2⟩ | ⟨rfl, h1, h2⟩ | ⟨rfl, h1⟩ | ⟨rfl, rfl, h2⟩ | ⟨rfl, rfl, h2⟩
          · have hok : (decide (0 < xo) && decide (xu = 0)) = false := by simp <;> omega
            have HJ : Keep (okJ l (i + 1) = false) := ⟨by rw [okJ_succ hp hx]; simp only [okB, Bool.true_or, Bool.true_and, Bool.false_or, hlt_t, if_true, Bool.false_eq_true, if_false]; exact hok⟩
            have d1 : decide (xo ≤ 0) = true := by simp [h1]
            have d2 : decide (0 < xo) = false := by simp <;> omega
            clear hok h1 hx hp
            go_wp2_with fail
            go_quiet (fail)
            have t1 : (W.drewN nq).cell? ⟨wr.heap.size, 1, none⟩ = _ := s1
            have t2 : (W.drewN nq).cell? ⟨wr.heap.size, 2, none⟩ = _ := s2
            have t3 : (W.drewN nq).cell? ⟨wr.heap.size, 3, none⟩ = _ := s3
            go_wp2_with fail
            go_ret
            exact ⟨by rw [sndN_false HJ.out n HLT.out]; rfl, BW.out _⟩
          · have hok : (decide (0 < xo) && decide (xu = 0)) = false := by simp [h2]
            have HJ : Keep (okJ l (i + 1) = false) := ⟨by rw [okJ_succ hp hx]; simp only [okB, Bool.true_or, Bool.true_and, Bool.false_or, hlt_t, if_true, Bool.false_eq_true, if_false]; exact hok⟩
            have d1 : decide (xo ≤ 0) = false := by simp <;> omega
            have d2 : decide (0 < xo) = true := by simp [h1]
            have d3 : (xu == 0) = false := by simp [h2]
            have d4 : (xu != 0) = true := by simp [h2]
            clear hok h1 h2 hx hp
            go_wp2_with fail
            go_quiet (fail)
            have t1 : (W.drewN nq).cell? ⟨wr.heap.size, 1, none⟩ = _ := s1
            have t2 : (W.drewN nq).cell? ⟨wr.heap.size, 2, none⟩ = _ := s2
            have t3 : (W.drewN nq).cell? ⟨wr.heap.size, 3, none⟩ = _ := s3
            go_wp2_with fail
            go_ret
            exact ⟨by rw [sndN_false HJ.out n HLT.out]; rfl, BW.out _⟩
          · have hok : (decide (0 < xo) && decide (xu = 0)) = true := by simp [h1, h2]
            have HJ : Keep (okJ l (i + 1) = true) := ⟨by rw [okJ_succ hp hx]; simp only [okB, Bool.true_or, Bool.true_and, Bool.false_or, hlt_t, if_true, Bool.false_eq_true, if_false]; exact hok⟩
            have d1 : decide (xo ≤ 0) = false := by simp <;> omega
            have d2 : decide (0 < xo) = true := by simp [h1]
            have d3 : (xu == 0) = true := by simp [h2]
            have d4 : (xu != 0) = false := by simp [h2]
            clear hok h1 h2 hx hp
            go_wp2_with fail
            go_quiet (fail)
            have t1 : (W.drewN nq).cell? ⟨wr.heap.size, 1, none⟩ = _ := s1
            have t2 : (W.drewN nq).cell? ⟨wr.heap.size, 2, none⟩ = _ := s2
            have t3 : (W.drewN nq).cell? ⟨wr.heap.size, 3, none⟩ = _ := s3
            go_wp2_with fail
            go_roundw
            case rel => exact ⟨(i + 1) + 1, by omega, by go_num, ⟨BW.out _⟩, ⟨by rw [sndN, HS.out, HJ.out]; rfl⟩⟩
            case measure => simp [intOf] <;> omega
          · have hok : (decide (xo = 0) && decide (0 < xu)) = false := by simp [h1]
            have HJ : Keep (okJ l (i + 1) = false) := ⟨by rw [okJ_succ hp hx]; simp only [okB, Bool.true_or, Bool.true_and, Bool.false_or, hlt_t, if_true, Bool.false_eq_true, if_false]; exact hok⟩
            have d1 : (xo == 0) = false := by simp [h1]
            have d2 : (xo != 0) = true := by simp [h1]
            clear hok h1 hx hp
            go_wp2_with fail
            go_quiet (fail)
            have t1 : (W.drewN nq).cell? ⟨wr.heap.size, 1, none⟩ = _ := s1
            have t2 : (W.drewN nq).cell? ⟨wr.heap.size, 2, none⟩ = _ := s2
            have t3 : (W.drewN nq).cell? ⟨wr.heap.size, 3, none⟩ = _ := s3
            go_wp2_with fail
            go_ret
            exact ⟨by rw [sndN_false HJ.out n HLT.out]; rfl, BW.out _⟩
          · have hok : (decide ((0 : Int) = 0) && decide (0 < xu)) = false := by simp <;> omega
            have HJ : Keep (okJ l (i + 1) = false) := ⟨by rw [okJ_succ hp hx]; simp only [okB, Bool.true_or, Bool.true_and, Bool.false_or, hlt_t, if_true, Bool.false_eq_true, if_false]; exact hok⟩
            have d1 : decide (xu ≤ 0) = true := by simp [h2]
            have d2 : decide (0 < xu) = false := by simp <;> omega
            clear hok h2 hx hp
            go_wp2_with fail
            go_quiet (fail)
            have t1 : (W.drewN nq).cell? ⟨wr.heap.size, 1, none⟩ = _ := s1
            have t2 : (W.drewN nq).cell? ⟨wr.heap.size, 2, none⟩ = _ := s2
            have t3 : (W.drewN nq).cell? ⟨wr.heap.size, 3, none⟩ = _ := s3
            go_wp2_with fail
            go_ret
            exact ⟨by rw [sndN_false HJ.out n HLT.out]; rfl, BW.out _⟩
          · have hok : (decide ((0 : Int) = 0) && decide (0 < xu)) = true := by simp [h2]
            have HJ : Keep (okJ l (i + 1) = true) := ⟨by rw [okJ_succ hp hx]; simp only [okB, Bool.true_or, Bool.true_and, Bool.false_or, hlt_t, if_true, Bool.false_eq_true, if_false]; exact hok⟩
            have d1 : decide (xu ≤ 0) = false := by simp <;> omega
            have d2 : decide (0 < xu) = true := by simp [h2]
            clear hok h2 hx hp
            go_wp2_with fail
            go_quiet (fail)
            have t1 : (W.drewN nq).cell? ⟨wr.heap.size, 1, none⟩ = _ := s1
            have t2 : (W.drewN nq).cell? ⟨wr.heap.size, 2, none⟩ = _ := s2
            have t3 : (W.drewN nq).cell? ⟨wr.heap.size, 3, none⟩ = _ := s3
            go_wp2_with fail
            go_roundw
            case rel => exact ⟨(i + 1) + 1, by omega, by go_num, ⟨BW.out _⟩, ⟨by rw [sndN, HS.out, HJ.out]; rfl⟩⟩
            case measure => simp [intOf] <;> omega
        · have HJ : Keep (okJ l (i + 1) = false) := ⟨by
            rw [okJ_succ hp hx]
            have : decide (p.t < xt) = false := by rw [hpt]; simp; omega
            simp only [okB, this, Bool.or_false, Bool.false_and]⟩
          have hd2 : decide (xt ≤ pt) = true := by simp [hd]
          clear hcs r0 r1 r2 r3 NB hpt hx hp
          go_wp2_with fail
          go_quiet (fail)
          go_wp2_with fail
          go_ret
          exact ⟨by rw [sndN_false HJ.out n HLT.out]; rfl, BW.out _⟩
    · obtain rfl : j = n := by omega
      go_wp2_with fail
      go_ret
      exact ⟨by rw [HS.out]; simp, HB.out⟩
end Go.Proofs.YtjpokeakemlffaaGreatDoor
