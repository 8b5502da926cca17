/-
  A connection with one leg, and its wheel: the state; what its parts answer.
-/
import Derived.Test.YtcjanieeepcddaaGreatDoorCo2
namespace Go.Proofs.YtcjanieeepcddaaGreatDoor
open Go.RowKit

/-- The state: the wheel's blocks, the connection, its sender and receiver, its leg and the leg's flow. -/
structure Cs (w0 w : World) (base wb wm nb : Nat) (S : Nat → Value) (now : Int) (L : List Due) (c sd st rv mp st2 lg fl : Nat) (carr farr : Array Value) : Prop where
  wl : Wl w base wb wm nb S now L
  cn : Bk w c carr 68
  snd : Bk w sd (sndC st) 129
  rcv : Bk w rv (rcvC mp st2) 132
  leg : Bk w lg (legC fl) 61
  flw : Bk w fl farr 105
  ow : ∀ k ∈ [c, sd, rv, lg, fl], ¬ Owns wb wm S k
  nd : [c, sd, rv, lg, fl].Nodup
  below : Below w0.heap.size w0 w
  hb : w0.heap.size ≤ base
  hs : base ≤ w.heap.size
  lo : ∀ k ∈ [c, sd, rv, lg, fl], w0.heap.size ≤ k
section
variable {w0 w w1 : World} {base wb wm nb nb' : Nat} {S S' : Nat → Value} {now now' : Int} {L L' : List Due} {c sd st rv mp st2 lg fl : Nat} {carr farr carr' farr' : Array Value}
theorem Cs.mine (h : Cs w0 w base wb wm nb S now L c sd st rv mp st2 lg fl carr farr) : ∀ k ∈ [c, sd, rv, lg, fl], k < w.heap.size := by
  intro k hk
  simp only [List.mem_cons, List.not_mem_nil, or_false] at hk
  rcases hk with rfl | rfl | rfl | rfl | rfl
  · exact h.cn.lt
  · exact h.snd.lt
  · exact h.rcv.lt
  · exact h.leg.lt
  · exact h.flw.lt
theorem Cs.quiet (h : Cs w0 w base wb wm nb S now L c sd st rv mp st2 lg fl carr farr) (hB : Below w.heap.size w w1) : Cs w0 w1 base wb wm nb S now L c sd st rv mp st2 lg fl carr farr :=
  have F := Fz.below hB (Nat.le_refl _)
  ⟨h.wl.below hB, h.cn.fz F (by simp), h.snd.fz F (by simp), h.rcv.fz F (by simp), h.leg.fz F (by simp), h.flw.fz F (by simp), h.ow, h.nd, h.below.trans (hB.mono h.below.size), h.hb, Nat.le_trans h.hs hB.size, h.lo⟩
theorem Cs.wheel (h : Cs w0 w base wb wm nb S now L c sd st rv mp st2 lg fl carr farr) (hw : Wl w1 base wb wm nb' S' now' L') (hf : Fm w w1 wb wm S S') : Cs w0 w1 base wb wm nb' S' now' L' c sd st rv mp st2 lg fl carr farr := by
  have kb : ∀ k ∈ [c, sd, rv, lg, fl], w1.heap[k]? = w.heap[k]? := fun k hk => hf.other (h.mine k hk) (h.ow k hk)
  refine ⟨hw, ⟨(kb c (by simp)).trans h.cn.eq⟩, ⟨(kb sd (by simp)).trans h.snd.eq⟩, ⟨(kb rv (by simp)).trans h.rcv.eq⟩, ⟨(kb lg (by simp)).trans h.leg.eq⟩, ⟨(kb fl (by simp)).trans h.flw.eq⟩, fun k hk ho => ?_, h.nd, h.below.trans ((h.wl.fmBelow hf h.hs).mono h.hb), h.hb, Nat.le_trans h.hs hf.size, h.lo⟩
  rcases hf.owns ho with h1 | h1
  · exact h.ow k hk h1
  · have := h.mine k hk; omega
theorem Cs.own {l : List Nat} (h : Cs w0 w base wb wm nb S now L c sd st rv mp st2 lg fl carr farr) (F : Fz w w1 (c :: fl :: l)) (hc : Bk w1 c carr' 68) (hf : Bk w1 fl farr' 105) (hl : ∀ k ∈ l, w0.heap.size ≤ k ∧ ¬ Owns wb wm S k ∧ k ∉ [sd, rv, lg]) : Cs w0 w1 base wb wm nb S now L c sd st rv mp st2 lg fl carr' farr' := by
  have nd := h.nd
  simp only [List.nodup_cons, List.mem_cons, List.not_mem_nil, or_false, not_or, not_false_eq_true, List.nodup_nil, and_true] at nd
  obtain ⟨⟨n1, n2, n3, n4⟩, ⟨n5, n6, n7⟩, ⟨n8, n9⟩, n10⟩ := nd
  have hl3 : sd ∉ l ∧ rv ∉ l ∧ lg ∉ l := ⟨fun e => (hl _ e).2.2 (by simp), fun e => (hl _ e).2.2 (by simp), fun e => (hl _ e).2.2 (by simp)⟩
  refine ⟨h.wl.same F.size fun k ho => F.block k (h.wl.lt ho) ?_, hc, h.snd.fz F ?_, h.rcv.fz F ?_, h.leg.fz F ?_, hf, h.ow, h.nd, h.below.trans (F.toBelow h.below.size ?_), h.hb, Nat.le_trans h.hs F.size, h.lo⟩
  · simp only [List.mem_cons, not_or]
    exact ⟨fun e => h.ow c (by simp) (e ▸ ho), fun e => h.ow fl (by simp) (e ▸ ho), fun e => (hl _ e).2.1 ho⟩
  · simp only [List.mem_cons, not_or]
    exact ⟨fun e => n1 e.symm, n7, hl3.1⟩
  · simp only [List.mem_cons, not_or]
    exact ⟨fun e => n2 e.symm, n9, hl3.2.1⟩
  · simp only [List.mem_cons, not_or]
    exact ⟨fun e => n3 e.symm, n10, hl3.2.2⟩
  · intro k hk
    simp only [List.mem_cons] at hk
    rcases hk with rfl | rfl | hk
    · exact h.lo _ (by simp)
    · exact h.lo _ (by simp)
    · exact (hl _ hk).1
end
/-- What changed: a wheel's blocks, and these. -/
structure Fw (w w' : World) (b m : Nat) (S S' : Nat → Value) (cs : List Nat) : Prop where
  os : w'.os = w.os
  tape : w'.tape = w.tape
  output : w'.output = w.output
  size : w.heap.size ≤ w'.heap.size
  owns : ∀ k, Owns b m S' k → Owns b m S k ∨ w.heap.size ≤ k
  block : ∀ k, k < w.heap.size → ¬ Owns b m S k → k ∉ cs → w'.heap[k]? = w.heap[k]?
section
variable {w w1 w2 : World} {b m k : Nat} {S S1 S2 : Nat → Value} {cs cs' : List Nat} {arr : Array Value} {ty : TypeId}
theorem Fm.fw (h : Fm w w1 b m S S1) : Fw w w1 b m S S1 [] := ⟨h.os, h.tape, h.output, h.size, fun _ ho => h.owns ho, fun _ hk ho _ => h.other hk ho⟩
theorem Fz.fw (h : Fz w w1 cs) (b m : Nat) (S : Nat → Value) : Fw w w1 b m S S cs := ⟨h.os, h.tape, h.output, h.size, fun _ ho => .inl ho, fun _ hk _ hn => h.block _ hk hn⟩
theorem Fw.trans (h : Fw w w1 b m S S1 cs) (h' : Fw w1 w2 b m S1 S2 cs') : Fw w w2 b m S S2 (cs ++ cs') where
  os := h'.os.trans h.os
  tape := h'.tape.trans h.tape
  output := h'.output.trans h.output
  size := Nat.le_trans h.size h'.size
  owns k ho := by
    rcases h'.owns k ho with h1 | h1
    · exact h.owns k h1
    · exact .inr (Nat.le_trans h.size h1)
  block k hk ho hn := by
    refine (h'.block k (Nat.lt_of_lt_of_le hk h.size) (fun o => ?_) (fun e => hn (by simp [e]))).trans (h.block k hk ho (fun e => hn (by simp [e])))
    rcases h.owns k o with h1 | h1
    · exact ho h1
    · omega
theorem Fw.mono (h : Fw w w1 b m S S1 cs) (hs : ∀ k, k < w.heap.size → k ∈ cs → k ∈ cs') : Fw w w1 b m S S1 cs' := ⟨h.os, h.tape, h.output, h.size, h.owns, fun k hk ho hn => h.block k hk ho fun e => hn (hs k hk e)⟩
theorem Bk.fw (h : Bk w k arr ty) (F : Fw w w1 b m S S1 cs) (ho : ¬ Owns b m S k) (hn : k ∉ cs) : Bk w1 k arr ty := ⟨(F.block k h.lt ho hn).trans h.eq⟩
theorem Fw.free (F : Fw w w1 b m S S1 cs) (hk : k < w.heap.size) (ho : ¬ Owns b m S k) : ¬ Owns b m S1 k := fun o => by
  rcases F.owns k o with h1 | h1
  · exact ho h1
  · omega
end

section
variable {sd st rv mp st2 : Nat}
set_option maxRecDepth 100000 in
theorem done_no (w : World) (h : Bk w sd (sndC st) 129) : Calls Tryz.prog 73 #[.pointer (some ⟨sd, 0, none⟩)] w fun e w' => e = .returned (.bool false) ∧ w' = w := by
  have c6 : w.cell? ⟨sd, 6, none⟩ = some (.bool false) := h.c 6
  clear h
  go_enter Tryz.func73, Tryz.ntmps73
  go_wp2_with fail
  go_ret
  exact ⟨rfl, rfl⟩
set_option maxRecDepth 100000 in
theorem ended_no (w : World) (h : Bk w rv (rcvC mp st2) 132) : Calls Tryz.prog 74 #[.pointer (some ⟨rv, 0, none⟩)] w fun e w' => e = .returned (.bool false) ∧ ∃ n, w' = w.drewN n := by
  have c0 : w.cell? ⟨rv, 0, none⟩ = some (.int .i64 1) := h.c 0
  have c4 : w.cell? ⟨rv, 4, none⟩ = some (.int .i64 0) := h.c 4
  clear h
  go_enter Tryz.func74, Tryz.ntmps74
  go_wp2_with fail
  go_big_quiet (fail)
  go_wp2_with fail
  go_ret
  exact ⟨by first | rfl | simp, _, rfl⟩
set_option maxRecDepth 100000 in
theorem due_no (w : World) (h : Bk w sd (sndC st) 129) : Calls Tryz.prog 129 #[.pointer (some ⟨sd, 0, none⟩)] w fun e w' => e = .returned (.tuple #[.int .i64 0, .bool false]) ∧ ∃ n, w' = w.drewN n := by
  have c5 : w.cell? ⟨sd, 5, none⟩ = some (.bool false) := h.c 5
  clear h
  go_enter Tryz.func129, Tryz.ntmps129
  go_wp2_with fail
  go_big_quiet (fail)
  go_wp2_with fail
  refine bodyPost_ret (results_tmp2 rfl _ _ _) rfl ⟨by first | rfl | simp, _, rfl⟩
set_option maxRecDepth 100000 in
theorem edge_any (w : World) (h : Bk w rv (rcvC mp st2) 132) : Calls Tryz.prog 90 #[.pointer (some ⟨rv, 0, none⟩)] w fun e w' => e = .returned (.int .i64 33) ∧ ∃ n, w' = w.drewN n := by
  have c0 : w.cell? ⟨rv, 0, none⟩ = some (.int .i64 1) := h.c 0
  have c1 : w.cell? ⟨rv, 1, none⟩ = some (.slice none 0 0) := h.c 1
  clear h
  go_enter Tryz.func90, Tryz.ntmps90
  go_wp2_with fail
  go_big_quiet (fail)
  go_wp2_with fail
  go_ret
  exact ⟨by first | rfl | simp, _, rfl⟩
set_option maxRecDepth 100000 in
theorem win_any (w : World) (h : Bk w rv (rcvC mp st2) 132) : Calls Tryz.prog 36 #[.pointer (some ⟨rv, 0, none⟩)] w fun e w' => e = .returned (.int .i64 32) ∧ ∃ n, w' = w.drewN n := by
  have c0 : w.cell? ⟨rv, 0, none⟩ = some (.int .i64 1) := h.c 0
  have EW : Keep (∀ n, Calls Tryz.prog 90 #[.pointer (some ⟨rv, 0, none⟩)] (w.drewN n) fun e w' => e = .returned (.int .i64 33) ∧ ∃ m, w' = (w.drewN n).drewN m) := ⟨fun n => edge_any _ (h.fz (Fz.drew w n) (by simp))⟩
  clear h
  go_enter Tryz.func36, Tryz.ntmps36
  go_wp2_with fail
  go_big_quiet (first | (go_at_call 90; exact Calls.quiet_of (EW.out _)) | fail)
  go_wp2_with fail
  go_ret
  exact ⟨by first | rfl | simp, _, rfl⟩
end
end Go.Proofs.YtcjanieeepcddaaGreatDoor
/-
  A connection that opens: pump, Legs, alone, the end's timer.
-/
namespace Go.Proofs.YtcjanieeepcddaaGreatDoor
open Go.RowKit

abbrev legsA (lg : Nat) : Array Value := #[.pointer (some ⟨lg, 0, none⟩), .pointer none, .pointer none, .pointer none, .pointer none, .pointer none, .pointer none, .pointer none]
theorem legsA_nil {lg j : Nat} (h0 : 0 < j) (h8 : j < 8) : (legsA lg)[j]? = some (.pointer none) := by
  rcases (by omega : j = 1 ∨ j = 2 ∨ j = 3 ∨ j = 4 ∨ j = 5 ∨ j = 6 ∨ j = 7) with rfl | rfl | rfl | rfl | rfl | rfl | rfl <;> rfl
/-- The connection's block behind Dial's put. -/
abbrev conD (p1 p2 k : Int) (sd rv pb lg wb : Nat) (out : Value) : Array Value := conC p1 p2 k 0 false 0 0 sd rv pb (.pointer (some ⟨lg, 0, none⟩)) 0 0 wb 1 0 0 false 0 false out false false
section
variable {w0 w : World} {base wb wm nb : Nat} {S : Nat → Value} {now : Int} {L : List Due} {c sd st rv mp st2 lg fl pb q : Nat} {p1 p2 k : Int} {out fout : Value} {times rcv tries at_ since : Int} {has twice : Bool} {farr : Array Value}
set_option maxRecDepth 100000 in
theorem pump_init (tick : Int) (h : Bk w c (conD p1 p2 k sd rv pb lg wb out) 68) : Calls Tryz.prog 75 #[.pointer (some ⟨c, 0, none⟩), .int .i64 tick] w fun e w' => e = .returned (.tuple #[]) ∧ w' = w := by
  have c7 : w.cell? ⟨c, 7, none⟩ = some (.int .i64 0) := h.c 7
  clear h
  go_enter Tryz.func75, Tryz.ntmps75
  go_wp2_with fail
  try simp only [Exit.inBlock, Exit.then]
  refine bodyPost_ret (results_none rfl _ _ _) rfl ⟨rfl, rfl⟩
set_option maxRecDepth 100000 in
set_option maxHeartbeats 1600000 in
theorem legs_one (h : Bk w c (conD p1 p2 k sd rv pb lg wb out) 68) (hl : Bk w lg (legC fl) 61) (hf : Bk w fl (flC q times 1 rcv tries at_ has since twice fout) 105) :
    Calls Tryz.prog 24 #[.pointer (some ⟨c, 0, none⟩)] w fun e w' => e = .returned (.int .i64 1) ∧ w' = w := by
  have l0 : w.cell? ⟨c, 12, none⟩ = some (.pointer (some ⟨lg, 0, none⟩)) := h.c 12
  have l1 : w.cell? ⟨c, 13, none⟩ = some (.pointer none) := h.c 13
  have l2 : w.cell? ⟨c, 14, none⟩ = some (.pointer none) := h.c 14
  have l3 : w.cell? ⟨c, 15, none⟩ = some (.pointer none) := h.c 15
  have l4 : w.cell? ⟨c, 16, none⟩ = some (.pointer none) := h.c 16
  have l5 : w.cell? ⟨c, 17, none⟩ = some (.pointer none) := h.c 17
  have l6 : w.cell? ⟨c, 18, none⟩ = some (.pointer none) := h.c 18
  have l7 : w.cell? ⟨c, 19, none⟩ = some (.pointer none) := h.c 19
  have OV := Keep.mk (over_any lg fl q times 1 rcv tries at_ has since twice fout w hl hf)
  clear h hl hf
  go_enter Tryz.func24, Tryz.ntmps24
  go_wp2_with fail
  clear l0 l1 l2 l3 l4 l5 l6 l7
  go_loopw [3, 12] (fun n i wr => ∃ j : Nat, j ≤ 8 ∧ i = .int .i64 j ∧ n = .int .i64 (if j = 0 then 0 else 1) ∧ wr = w) (fun _ i _ => 8 - (intOf i).toNat)
  case atStart => exact ⟨0, by omega, rfl, rfl, rfl⟩
  case round =>
    obtain ⟨j, hj, rfl, rfl, rfl⟩ := hrel
    rcases Nat.eq_zero_or_pos j with rfl | hpos
    · have ix := index_leg (legsA lg) 0 _ rfl (by omega) wr
      rw [show ((0 : Nat) : Int) = 0 from rfl] at ix
      go_wp2_with (first
        | (go_at_call 38
           go_loud (refine OV.out.mono ?_; rintro e X ⟨rfl, hX⟩)
           rw [hX]
           clear hX)
        | fail)
      go_roundw
      case rel => exact ⟨1, by omega, by go_num, by first | rfl | trivial, by first | rfl | trivial⟩
      case measure => simp [intOf]
    · have hif : (if j = 0 then (0 : Int) else 1) = 1 := if_neg (by omega)
      rcases Nat.lt_or_ge j 8 with hlt | hge
      · have ix := index_leg (legsA lg) j _ (legsA_nil hpos hlt) hlt wr
        have hji : ((j : Nat) : Int) < 8 := by omega
        have HIF := Keep.mk hif
        rw [hif]
        have HP := Keep.mk hpos
        clear hif hpos
        go_wp2_with (first
          | (go_at_call 38
             go_loud (refine (over_nil _).mono ?_; rintro e X ⟨rfl, hX⟩)
             rw [hX]
             clear hX)
          | fail)
        go_roundw
        case rel => exact ⟨j + 1, by omega, by go_num, by rw [if_neg (by omega)], by first | rfl | trivial⟩
        case measure => simp [intOf] <;> omega
      · obtain rfl : j = 8 := by omega
        go_wp2_with fail
        go_ret
        exact ⟨rfl, rfl⟩
set_option maxRecDepth 100000 in
theorem alone_one (tick : Int) (h : Bk w c (conD p1 p2 k sd rv pb lg wb out) 68) (hl : Bk w lg (legC fl) 61) (hf : Bk w fl (flC q times 1 rcv tries at_ has since twice fout) 105) :
    Calls Tryz.prog 78 #[.pointer (some ⟨c, 0, none⟩), .int .i64 tick] w fun e w' => e = .returned (.tuple #[]) ∧ w' = w := by
  have c7 : w.cell? ⟨c, 7, none⟩ = some (.int .i64 0) := h.c 7
  have LG := Keep.mk (legs_one h hl hf)
  clear h hl hf
  go_enter Tryz.func78, Tryz.ntmps78
  go_wp2_with (first
    | (go_at_call 24
       go_loud (refine LG.out.mono ?_; rintro e X ⟨rfl, hX⟩)
       rw [hX]
       clear hX)
    | fail)
  try simp only [Exit.inBlock, Exit.then]
  refine bodyPost_ret (results_none rfl _ _ _) rfl ⟨rfl, rfl⟩
theorem below_dn (w : World) (n : Nat) : Below w.heap.size w (w.drewN n) := ⟨rfl, rfl, rfl, Nat.le_refl _, fun _ _ => rfl⟩
/-- The wheel turned. -/
theorem Fm.alloc (w : World) (o : Obj) (b m : Nat) (S : Nat → Value) : Fm w (w.alloc o) b m S S := Fm.quiet ((Below.refl _ w).alloc (Nat.le_refl _) o) b m S
theorem cells_one (w : World) (x : Int) : (w.alloc (.cells #[.int .i64 x] 3)).cell? ⟨w.heap.size, 0, none⟩ = some (.int .i64 x) := by rw [World.cell?_alloc_new]; rfl
set_option maxRecDepth 100000 in
set_option maxHeartbeats 1600000 in
theorem tellend_init (tick : Int) (h : Cs w0 w base wb wm nb S now L c sd st rv mp st2 lg fl (conD p1 p2 k sd rv pb lg wb out) farr) (hn : 0 ≤ now) (hn2 : now < 2305843009213693952) (hL : L.length ≤ 10000) (h8 : tk L 8 = none) :
    Calls Tryz.prog 76 #[.pointer (some ⟨c, 0, none⟩), .int .i64 tick] w fun e w' => e = .returned (.tuple #[]) ∧ ∃ S', Cs w0 w' base wb wm nb S' now (dropH 8 L) c sd st rv mp st2 lg fl (conD p1 p2 k sd rv pb lg wb out) farr ∧ Fm w w' wb wm S S' := by
  have c9 : w.cell? ⟨c, 9, none⟩ = some (.pointer (some ⟨sd, 0, none⟩)) := h.cn.c 9
  have DN := Keep.mk (due_no w h.snd)
  have W8 : Keep (wfI 8) := ⟨wfI_of (by omega) (by omega)⟩
  have HC := Keep.mk h
  have HN : Keep (0 ≤ now ∧ now < 2305843009213693952 ∧ L.length ≤ 10000) := ⟨hn, hn2, hL⟩
  have H8 := Keep.mk h8
  clear h hn hn2 hL h8
  go_enter Tryz.func76, Tryz.ntmps76
  go_wp2_with (first
    | (go_at_call 129
       go_loud (refine DN.out.mono ?_; rintro e w1 ⟨rfl, n1, hw1⟩)
       have C1 := Keep.mk (HC.out.quiet (w1 := w1) (by rw [hw1]; exact below_dn w n1))
       have c22 : w1.cell? ⟨c, 22, none⟩ = some (.pointer (some ⟨wb, 0, none⟩)) := C1.out.cn.c 22
       have AT := Keep.mk (at_wl C1.out.wl W8.out)
       have M1 : Keep (Fm w w1 wb wm S S) := ⟨Fm.quiet (by rw [hw1]; exact below_dn w n1) _ _ _⟩
       clear hw1)
    | (go_at_call 130
       go_loud (refine AT.out.mono ?_; rintro e X ⟨cx, rfl, -, hX⟩)
       rw [hX, H8.out]
       clear hX
       have C2 := Keep.mk (C1.out.quiet ((Below.refl _ w1).alloc (Nat.le_refl _) (.cells #[.int .i64 8] 3)))
       have CW := Keep.mk (cancel_wl (c := 1) C2.out.wl C2.out.hs (by simp) (cells_one w1 8) W8.out HN.out.1 HN.out.2.1 HN.out.2.2))
    | (go_at_call 100
       go_loud (refine CW.out.mono ?_; rintro e w3 ⟨rfl, S', wl3, fm3⟩)
       have C3 := Keep.mk (C2.out.wheel wl3 fm3)
       have M3 := Keep.mk ((M1.out.trans (Fm.alloc w1 _ wb wm S)).trans fm3)
       clear wl3 fm3)
    | fail)
  try simp only [Exit.inBlock, Exit.then]
  refine bodyPost_ret (results_none rfl _ _ _) rfl ⟨rfl, S', C3.out, M3.out⟩
end
end Go.Proofs.YtcjanieeepcddaaGreatDoor
/-
  A connection that opens: what goes with its first segment; flush.
-/
namespace Go.Proofs.YtcjanieeepcddaaGreatDoor
open Go.RowKit

abbrev capO (k : Int) : Array Value := #[.int .i64 1, .int .u64 k, .int .u64 0, .int .u32 0, .int .u32 0, .int .i64 0, .int .i64 0, .bool false, .bool false, .int .i64 0, .bool false, .int .i64 0, .int .i64 0, .bool false]
section
variable {w0 w : World} {base wb wm nb : Nat} {S : Nat → Value} {now : Int} {L : List Due} {c sd st rv mp st2 lg fl pb q : Nat} {p1 p2 k : Int} {out fout : Value} {times state rcv tries at_ since : Int} {has twice : Bool} {farr : Array Value}
set_option maxRecDepth 100000 in
set_option maxHeartbeats 1600000 in
theorem opens_cap (h : Bk w c (conD p1 p2 k sd rv pb lg wb out) 68) (hl : Bk w lg (legC fl) 61) :
    Calls Tryz.prog 193 #[.pointer (some ⟨c, 0, none⟩), .pointer (some ⟨lg, 0, none⟩)] w fun e w' => e = .returned (.agg (capO k)) ∧ Below w.heap.size w w' := by
  have A := Fz.alloc w (.cells #[.int .i64 0, .int .u64 0, .int .u64 0, .int .u32 0, .int .u32 0, .int .i64 0, .int .i64 0, .bool false, .bool false, .int .i64 0, .bool false, .int .i64 0, .int .i64 0, .bool false] 54)
  have d0 := (h.fz A (by simp)).c 0
  have d4 := (hl.fz A (by simp)).c 4
  have c0 : (w.alloc (.cells #[.int .i64 0, .int .u64 0, .int .u64 0, .int .u32 0, .int .u32 0, .int .i64 0, .int .i64 0, .bool false, .bool false, .int .i64 0, .bool false, .int .i64 0, .int .i64 0, .bool false] 54)).cell? ⟨c, 0, none⟩ = some (.int .u64 k) := d0
  have c4 : (w.alloc (.cells #[.int .i64 0, .int .u64 0, .int .u64 0, .int .u32 0, .int .u32 0, .int .i64 0, .int .i64 0, .bool false, .bool false, .int .i64 0, .bool false, .int .i64 0, .int .i64 0, .bool false] 54)).cell? ⟨lg, 4, none⟩ = some (.bool false) := d4
  clear h hl A d0 d4
  go_enter Tryz.func193, Tryz.ntmps193
  go_wp2_with fail
  try simp only [Exit.inBlock, Exit.then]
  exact bodyPost_ret (v := .agg (capO k)) (results_cell_row Tryz.results193 _ _ w.heap.size 54 _ (0, 0) _ rfl (heap_alloc_new _ _) Tryz.underlying54 rfl (by kernel_rfl)) rfl ⟨rfl, (Below.refl _ w).alloc (Nat.le_refl _) _⟩
set_option maxRecDepth 100000 in
set_option maxHeartbeats 1600000 in
theorem with_syn (s : Int) (h : Bk w c (conD p1 p2 k sd rv pb lg wb out) 68) (hl : Bk w lg (legC fl) 61) :
    Calls Tryz.prog 133 #[.pointer (some ⟨c, 0, none⟩), .pointer (some ⟨lg, 0, none⟩), .agg (synO s).toArray] w fun e w' => ∃ g, e = .returned (.slice (some ⟨g, 0, none⟩) 1 1) ∧ w.heap.size ≤ g ∧ Bk w' g (capO k) 54 ∧ Below w.heap.size w w' := by
  have A := Fz.alloc w (.cells (synO s).toArray 177)
  have OC := Keep.mk (opens_cap (h.fz A (by simp)) (hl.fz A (by simp)))
  have HB := Keep.mk ((Below.refl _ w).alloc (Nat.le_refl _) (.cells (synO s).toArray 177))
  clear h hl A
  go_enter Tryz.func133, Tryz.ntmps133
  go_wp2_with (first
    | (go_at_call 193
       go_loud (refine OC.out.mono ?_; rintro e w1 ⟨rfl, hb1⟩)
       have B1 := Keep.mk (HB.out.trans (hb1.mono HB.out.size))
       clear hb1)
    | fail)
  go_ret
  exact ⟨w1.heap.size, rfl, B1.out.size, Bk.new w1 _ _, B1.out.alloc B1.out.size _⟩
set_option maxRecDepth 100000 in
theorem fout_any (h : Bk w fl (flC q times state rcv tries at_ has since twice fout) 105) (A : Option Addr) (n cc : Nat) (hv : fout = .slice A n cc) :
    Calls Tryz.prog 99 #[.pointer (some ⟨fl, 0, none⟩)] w fun e w' => e = .returned (.slice A n cc) ∧ Bk w' fl (flC q times state rcv tries at_ has since twice (.slice none 0 0)) 105 ∧ Fz w w' [fl] := by
  subst hv
  have c12 : w.cell? ⟨fl, 12, none⟩ = some (.slice A n cc) := h.c 12
  have f12 := h.free 12
  have HB := Keep.mk h
  clear h
  go_enter Tryz.func99, Tryz.ntmps99
  go_wp2_with fail
  go_ret
  exact ⟨rfl, HB.out.set 12 _, Fz.set _ fl 12 _⟩
end
end Go.Proofs.YtcjanieeepcddaaGreatDoor
