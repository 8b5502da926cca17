/-
  Walks and laws, one behind the other (part 33).
-/
import Derived.Test.YtaoibkofihkhoaaGreatDoorW31
import Derived.Test.YtaoibkofihkhoaaGreatDoorW32
set_option linter.unusedSimpArgs false
set_option linter.unusedVariables false
/-
  A host's tokens.
-/
namespace Go.Proofs.YtaoibkofihkhoaaGreatDoor
open Go.RowKit

section
variable {lo : Nat} {w : World} {hb tb m nbt : Nat} {seed drawn made tick : Int} {pv ports lv outv : Value} {M : Int → Option En} {k : Nat}
set_option maxRecDepth 100000 in
theorem htokens_any (h : Bk w hb (hostC seed drawn pv ports lv made tb tick outv) 68) (hT : Tb w lo tb m nbt 4 M k) (hk : k ≤ 100000) :
    Calls Tryz.prog 16 #[.pointer (some ⟨hb, 0, none⟩)] w fun e w' => ∃ (v : Value) (ts : List Int), e = .returned v ∧ (∀ t, t ∈ ts ↔ (M t).isSome = true) ∧ ts.Nodup ∧ ts.Pairwise (· ≤ ·) ∧ ts.length ≤ k ∧
      w'.ownsRow (w.heap.size + 1) 111 4 v ts.length (ts.flatMap (encE (fOf M))) ∧ Below w.heap.size w w' := by
  have c6 : w.cell? ⟨hb, 6, none⟩ = some (.pointer (some ⟨tb, 0, none⟩)) := h.c 6
  have AL := Keep.mk (all_any lo tb m nbt 4 M k w hT hk)
  clear h hT hk
  go_enter Tryz.func16, Tryz.ntmps16
  go_wp2_with (first
    | (go_at_call 40
       go_loud (refine AL.out.mono ?_; rintro e w1 ⟨v, ts, rfl, h1, h2, h3, h4, h5, h6⟩)
       have H := Keep.mk (And.intro h1 (And.intro h2 (And.intro h3 (And.intro h4 (And.intro h5 h6)))))
       obtain ⟨Av, nv, cv, rfl⟩ : ∃ A n c, v = .slice A n c := let ⟨A, c, h, _⟩ := own_slice h5; ⟨A, _, c, h⟩
       clear h1 h2 h3 h4 h5 h6)
    | fail)
  go_ret
  exact ⟨_, ts, rfl, H.out⟩
end
end Go.Proofs.YtaoibkofihkhoaaGreatDoor
/-
  A world's parts: a net; a host that listens; a host's counts.
-/
namespace Go.Proofs.YtaoibkofihkhoaaGreatDoor
open Go.RowKit

set_option maxRecDepth 100000 in
theorem netnew_any (w : World) : Calls Tryz.prog 18 #[] w fun e w' => e = .returned (.pointer (some ⟨w.heap.size, 0, none⟩)) ∧ w' = w.alloc (.cells #[.slice none 0 0] 62) := by
  go_enter Tryz.func18, Tryz.ntmps18
  go_wp2_with fail
  go_ret
  exact ⟨rfl, rfl⟩
set_option maxRecDepth 100000 in
theorem netlen_any (nb : Nat) (A : Option Addr) (n c : Nat) (w : World) (h : Bk w nb #[.slice A n c] 62) : Calls Tryz.prog 14 #[.pointer (some ⟨nb, 0, none⟩)] w fun e w' => e = .returned (.int .i64 n) ∧ w' = w := by
  have c0 : w.cell? ⟨nb, 0, none⟩ = some (.slice A n c) := h.c 0
  clear h
  go_enter Tryz.func14, Tryz.ntmps14
  go_wp2_with fail
  go_ret
  exact ⟨rfl, rfl⟩
set_option maxRecDepth 100000 in
theorem iint_none (n : Int) (w : World) : Calls Tryz.prog 67 #[.slice none 0 0, .int .i64 n] w fun e w' => e = .returned (.int .i64 (-1)) ∧ w' = w := by
  go_enter Tryz.func67, Tryz.ntmps67
  go_wp2_with fail
  go_loopw [8] (fun i wr => i = .int .i64 0 ∧ wr = w) (fun _ _ => 0)
  case atStart => exact ⟨rfl, rfl⟩
  case round =>
    obtain ⟨rfl, rfl⟩ := hrel
    go_wp2_with fail
    go_ret
    exact ⟨rfl, rfl⟩
set_option maxRecDepth 100000 in
theorem cint_none (n : Int) (w : World) : Calls Tryz.prog 42 #[.slice none 0 0, .int .i64 n] w fun e w' => e = .returned (.bool false) ∧ w' = w := by
  go_enter Tryz.func42, Tryz.ntmps42
  go_wp2_with (first
    | (go_at_call 67
       go_loud (refine (iint_none _ _).mono ?_; rintro e X ⟨rfl, hX⟩)
       rw [hX]
       clear hX)
    | fail)
  go_ret
  exact ⟨by first | rfl | simp, rfl⟩
theorem infoInt : (Tryz.prog.info? 3).map (fun i => (i.zero, i.size, i.bytes)) = some (some (.int .i64 0), 1, 8) := by kernel_rfl
section
variable {lo : Nat} {w : World} {hb tb m nbt : Nat} {seed : Int} {ports lv : Value} {made tick : Int} {outv : Value} {M : Int → Option En} {k : Nat} {l : List (Nat × Nat)} {R : List SegR}
set_option maxRecDepth 100000 in
set_option maxHeartbeats 1600000 in
/-- A host that hasn't listened listens. -/
theorem hlisten_any {drawn : Int} {pv : Value} (h : Bk w hb (hostC seed drawn pv (.slice none 0 0) lv made tb tick outv) 68) :
    Calls Tryz.prog 19 #[.pointer (some ⟨hb, 0, none⟩), .int .i64 80] w fun e w' => ∃ ports', e = .returned (.int .i64 0) ∧ Bk w' hb (hostC seed drawn pv ports' lv made tb tick outv) 68 ∧ Fz w w' [hb] := by
  have c3 : w.cell? ⟨hb, 3, none⟩ = some (.slice none 0 0) := h.c 3
  have HB := Keep.mk h
  have KX1 := Keep.mk (Fz.alloc w (.cells #[.int .i64 80] 3))
  clear h
  go_enter Tryz.func19, Tryz.ntmps19
  go_wp2_with (first
    | (go_at_call 42
       go_loud (refine (cint_none _ _).mono ?_; rintro e X ⟨rfl, hX⟩)
       rw [hX]
       clear hX)
    | (refine append_one rfl (.tmp 26) (.tmp 28) 64 3 rfl Tryz.underlying64 infoInt rfl (by omega) (by omega) rfl w.heap.size [.int .i64 80] rfl rfl (fun j u hu => ((Bk.new w #[.int .i64 80] 3).c j).trans (by simpa using hu)) (by simp) (by simp [Value.oneCell']) ?_
       intro g' c' w2 ho2 hb2
       have F2 := KX1.out.trans (Fz.below hb2 (Nat.le_refl _))
       have HB2 := HB.out.fz F2 (by simp)
       have KF2 := Keep.mk F2
       have KHB2 := Keep.mk HB2
       have f3 := HB2.free 3
       have d3 : w2.cell? ⟨hb, 3, none⟩ = some (.slice none 0 0) := HB2.c 3
       clear ho2 hb2 F2 HB2)
    | fail)
  go_ret
  exact ⟨_, rfl, KHB2.out.set 3 (.slice (some ⟨g', 0, none⟩) 1 c'), (KF2.out.trans (Fz.set w2 hb 3 (.slice (some ⟨g', 0, none⟩) 1 c'))).mono (by simp)⟩
set_option maxRecDepth 100000 in
/-- A host without connections counts none. -/
theorem hcounts_none {A : Option Addr} {cc : Nat} {drawn : Int} {pv : Value} (h : Bk w hb (hostC seed drawn pv ports (.slice A 0 cc) made tb tick outv) 68) :
    Calls Tryz.prog 15 #[.pointer (some ⟨hb, 0, none⟩)] w fun e w' => e = .returned (.tuple #[.int .i64 0, .int .i64 0, .int .i64 0]) ∧ w' = w := by
  have c4 : w.cell? ⟨hb, 4, none⟩ = some (.slice A 0 cc) := h.c 4
  clear h
  go_enter Tryz.func15, Tryz.ntmps15
  go_wp2_with fail
  go_loopw [5, 6, 16] (fun a b i wr => a = .int .i64 0 ∧ b = .int .i64 0 ∧ i = .int .i64 0 ∧ wr = w) (fun _ _ _ _ => 0)
  case atStart => exact ⟨rfl, rfl, rfl, rfl⟩
  case round =>
    obtain ⟨rfl, rfl, rfl, rfl⟩ := hrel
    go_wp2_with fail
    refine bodyPost_ret (v := .tuple #[.int .i64 0, .int .i64 0, .int .i64 0]) (by simp [results, Tryz.results15, go_sem]) rfl ⟨rfl, rfl⟩
set_option maxRecDepth 100000 in
/-- A host without tokens tells none. -/
theorem htokens_none {drawn : Int} {pv : Value} (h : Bk w hb (hostC seed drawn pv ports lv made tb tick outv) 68) (hT : Tb w lo tb m nbt 4 (fun _ => none) 0) :
    Calls Tryz.prog 16 #[.pointer (some ⟨hb, 0, none⟩)] w fun e w' => ∃ A c, e = .returned (.slice A 0 c) ∧ Below w.heap.size w w' := by
  refine (htokens_any h hT (by omega)).mono ?_
  rintro e w' ⟨v, ts, rfl, _, _, _, h5, h6, h7⟩
  obtain ⟨A, c, rfl, _⟩ := own_slice h6
  exact ⟨A, c, by rw [show ts.length = 0 by omega], h7⟩
end
end Go.Proofs.YtaoibkofihkhoaaGreatDoor
/-
  A world's deeds: a map from kinds to functions of the world's own.
-/
namespace Go.Proofs.YtaoibkofihkhoaaGreatDoor
open Go.RowKit Go.Maps

/-- A function that knows the world. -/
abbrev fnV (wb n : Nat) : Value := .func (.func n) #[.pointer (some ⟨wb, 0, none⟩)] #[]
def fnR (wb : Nat) : Value → Option (DataW Unit × List MemPlace)
  | .func (.func n) ⟨[.pointer (some ⟨b, 0, none⟩)]⟩ ⟨[]⟩ => if b = wb then some (.lit (.int .i64 n), []) else none
  | .nilFunc => some (.nil, [])
  | _ => none
theorem fnR_mk (wb n : Nat) : fnR wb (fnV wb n) = some (.lit (.int .i64 n), []) := by simp [fnR]
theorem fnR_inv {wb n : Nat} {v : Value} {ps : List MemPlace} (h : fnR wb v = some (.lit (.int .i64 n), ps)) : v = fnV wb n := by
  unfold fnR at h
  split at h
  · rename_i n' b
    by_cases e : b = wb
    · subst e
      rw [if_pos rfl] at h
      have := congrArg Prod.fst (Option.some.inj h)
      simp only [DataW.lit.injEq, Lit.int.injEq, true_and] at this
      have e2 : n' = n := Int.ofNat.inj this
      rw [e2]
    · rw [if_neg e] at h; cases h
  · cases h
  · cases h
def setD (M : Int → Option Nat) (h : Int) (v : Nat) : Int → Option Nat := fun x => if x = h then some v else M x
/-- Block m is the map of the deeds. -/
def Dm (w : World) (m nb wb : Nat) (M : Int → Option Nat) : Prop :=
  ∃ D : DataW Unit, w.ownsMap Tryz.prog 3 (fnR wb) m nb D ∧ (∀ h, Maps.has D (.int .i64 h) = (M h).isSome) ∧ (∀ h n, M h = some n → ∀ z, D.atKey (.int .i64 h) z = .lit (.int .i64 n))
section
variable {w w' : World} {m nb wb : Nat} {M : Int → Option Nat}
theorem Dm.lt (h : Dm w m nb wb M) : m < w.heap.size := let ⟨_, h, _⟩ := h; h.lt
theorem Dm.same (h : Dm w m nb wb M) (hb : w'.heap[m]? = w.heap[m]?) : Dm w' m nb wb M := by
  obtain ⟨D, ⟨es, clock, h1, r1⟩, r⟩ := h
  exact ⟨D, ⟨es, clock, hb.trans h1, r1⟩, r⟩
theorem Dm.made (w : World) (wb : Nat) : Dm (w.alloc (.map #[] 0)) w.heap.size 0 wb (fun _ => none) :=
  ⟨.map [], World.ownsMap_made w _ _ _, fun _ => rfl, fun x t (h : (none : Option Nat) = some t) => (by cases h)⟩
theorem Dm.put (h : Dm w m nb wb M) (hn : nb < maxLen) (x : Int) (n : Nat) (hx : wfI x) : ∃ w', (Instr.mapUpdate 41 (.map (some m)) (.int .i64 x) (fnV wb n)).run Tryz.prog w = .ok () w' ∧ Dm w' m (nb + 1) wb (setD M x n) ∧ w.mapTurned w' m := by
  obtain ⟨D, h, h1, h2⟩ := h
  obtain ⟨w', hrun, ho, htu⟩ := h.store keyed Tryz.underlying41 hn (keyOf_int_mk Tryz.underlying3 hx) (fnR_mk wb n)
  refine ⟨w', hrun, ⟨_, ho, fun y => ?_, fun y s hy z => ?_⟩, htu⟩
  · by_cases e : y = x
    · subst e; rw [setD, if_pos rfl, has_put_same h.isMap (key_int y)]; rfl
    · rw [setD, if_neg e, has_put_other (key_ne e)]; exact h1 y
  · by_cases e : y = x
    · subst e; rw [setD, if_pos rfl] at hy; cases hy; rw [atKey_put_same h.isMap (key_int y)]
    · rw [setD, if_neg e] at hy; rw [atKey_put_other (key_ne e)]; exact h2 y s hy z
/-- What a look at the deeds gives. -/
def doneF (wb : Nat) : Option Nat → Value
  | some n => fnV wb n
  | none => .nilFunc
theorem fnR_none {wb : Nat} {v : Value} {ps : List MemPlace} (h : fnR wb v = some (.nil, ps)) : v = .nilFunc := by
  unfold fnR at h
  split at h
  · rename_i n b
    by_cases e : b = wb
    · rw [if_pos e] at h
      cases h
    · rw [if_neg e] at h; cases h
  · rfl
  · cases h
theorem Dm.look (h : Dm w m nb wb M) {x : Int} (hx : wfI x) : (Instr.lookup 41 (.map (some m)) (.int .i64 x) true).run Tryz.prog w = .ok (.tuple #[doneF wb (M x), .bool (M x).isSome]) w := by
  obtain ⟨D, h, h1, h2⟩ := h
  obtain ⟨v, ps, hrun, hv⟩ := h.look_ok keyed Tryz.underlying41 (z := .nilFunc) (Tryz.zeroValue36 w) (zd := .nil) (zp := []) rfl (keyOf_int_mk Tryz.underlying3 hx)
  rw [h1] at hrun
  rw [hrun]
  cases hM : M x with
  | some n =>
    rw [h2 x n hM] at hv
    rw [fnR_inv hv]
    rfl
  | none =>
    rw [atKey_of_not_has (by rw [h1, hM]; rfl)] at hv
    rw [fnR_none hv]
    rfl
end
end Go.Proofs.YtaoibkofihkhoaaGreatDoor
/-
  A world is made.
-/
namespace Go.Proofs.YtaoibkofihkhoaaGreatDoor
open Go.RowKit Go.Maps

/-- A world's block. -/
abbrev wldC (h0 h1 nb : Nat) (n0 n1 : Int) (lv : Value) (dv : Value) : Array Value := #[.pointer (some ⟨h0, 0, none⟩), .pointer (some ⟨h1, 0, none⟩), .pointer (some ⟨nb, 0, none⟩), .int .i64 n0, .int .i64 n1, lv, dv]
/-- Which function does which kind. -/
def deeds : Int → Option Nat := setD (setD (setD (setD (setD (setD (setD (setD (setD (setD (setD (setD (setD (setD (setD (setD (fun _ => none) 0 20) 1 21) 2 22) 3 23) 4 24) 5 25) 6 26) 7 27) 8 28) 9 29) 10 30) 11 31) 12 32) 13 33) 14 34) 15 35
/-- A host that has nothing. -/
structure HIdle (lo : Nat) (w : World) (hb tb m : Nat) (seed tick : Int) : Prop where
  blk : ∃ ports, Bk w hb (hostC seed 0 (.slice none 0 0) ports (.slice none 0 0) 0 tb tick (.slice none 0 0)) 68
  tab : Tb w lo tb m 0 4 (fun _ => none) 0
  lo : lo ≤ hb
theorem HIdle.fz {lo : Nat} {w w' : World} {hb tb m : Nat} {seed tick : Int} {cs : List Nat} (h : HIdle lo w hb tb m seed tick) (F : Fz w w' cs) (h1 : hb ∉ cs) (h2 : tb ∉ cs) (h3 : m ∉ cs) : HIdle lo w' hb tb m seed tick :=
  ⟨let ⟨p, hp⟩ := h.blk; ⟨p, hp.fz F h1⟩, h.tab.fz F h2 h3, h.lo⟩
theorem HIdle.low {lo : Nat} {w w' : World} {hb tb m : Nat} {seed tick : Int} {cs : List Nat} (h : HIdle lo w hb tb m seed tick) (F : Fz w w' cs) (hl : ∀ c ∈ cs, c < lo) : HIdle lo w' hb tb m seed tick :=
  h.fz F (fun e => by have := hl _ e; have := h.lo; omega) (fun e => by have := hl _ e; have := h.tab.lowb; omega) (fun e => by have := hl _ e; have := h.tab.lowm; omega)
theorem HIdle.hc {lo : Nat} {w : World} {hb tb m : Nat} {seed tick : Int} (h : HIdle lo w hb tb m seed tick) : ∃ ports, Hc lo w hb tb m 0 seed ports (.slice none 0 0) 0 tick (.slice none 0 0) (fun _ => none) 0 [] [] := by
  obtain ⟨p, hp⟩ := h.blk
  exact ⟨p, ⟨⟨0, _, [], hp, Prm.nil _⟩, h.tab⟩, Sk.nil _ _, ⟨fun _ => #[], fun i s c hi => by simp at hi⟩, by simp, World.ownsRow_nil _ _ _ _, h.lo, Nat.le_trans h.lo (Nat.le_of_lt hp.lt)⟩
/-- A world that was made. -/
structure Wnew (w w' : World) (wb h0 t0 m0 h1 t1 m1 nb dm lo1 : Nat) (a b : Int) : Prop where
  wld : Bk w' wb (wldC h0 h1 nb 0 0 (.slice none 0 0) (.map (some dm))) 43
  net : Bk w' nb #[.slice none 0 0] 62
  i0 : HIdle w.heap.size w' h0 t0 m0 a 0
  i1 : HIdle lo1 w' h1 t1 m1 b 0
  dms : Dm w' dm 16 wb deeds
  lt0 : h0 < lo1 ∧ t0 < lo1 ∧ m0 < lo1 ∧ w.heap.size ≤ lo1
  lt1 : h1 < nb ∧ t1 < nb ∧ m1 < nb ∧ lo1 ≤ nb ∧ nb < wb ∧ wb < dm
  below : Below w.heap.size w w'
set_option maxRecDepth 100000 in
set_option maxHeartbeats 6400000 in
theorem wnew_any (a b : Int) (w : World) : Calls Tryz.prog 10 #[.int .u64 a, .int .u64 b] w fun e w' => ∃ wb h0 t0 m0 h1 t1 m1 nb dm lo1, e = .returned (.pointer (some ⟨wb, 0, none⟩)) ∧ Wnew w w' wb h0 t0 m0 h1 t1 m1 nb dm lo1 a b := by
  have NA := Keep.mk (hnew_any a w)
  have NB : Keep (∀ W, Calls Tryz.prog 17 #[.int .u64 b] W fun e w' => ∃ hb tb m, e = .returned (.pointer (some ⟨hb, 0, none⟩)) ∧ W.heap.size ≤ hb ∧ hb ≠ m ∧
    Bk w' hb (hostC b 0 (.slice none 0 0) (.slice none 0 0) (.slice none 0 0) 0 tb 0 (.slice none 0 0)) 68 ∧ Tb w' W.heap.size tb m 0 4 (fun _ => none) 0 ∧ Below W.heap.size W w') := ⟨fun W => hnew_any b W⟩
  go_enter Tryz.func10, Tryz.ntmps10
  go_wp2_with (first
    | (go_at_call 17
       go_loud (refine NA.out.mono ?_; rintro e w1 ⟨h0, t0, m0, rfl, l0, e0, k0, b0, y0⟩)
       have K0 := Keep.mk (And.intro l0 (And.intro e0 (And.intro k0 (And.intro b0 y0))))
       clear l0 e0 k0 b0 y0 NA)
    | (go_at_call 17
       go_loud (refine (NB.out _).mono ?_; rintro e w2 ⟨h1, t1, m1, rfl, l1, e1, k1, b1, y1⟩)
       have K1 := Keep.mk (And.intro l1 (And.intro e1 (And.intro k1 (And.intro b1 y1))))
       clear l1 e1 k1 b1 y1)
    | (go_at_call 18
       go_loud (refine (netnew_any _).mono ?_; rintro e X ⟨rfl, hX⟩)
       rw [hX]
       clear hX)
    | fail)
  obtain ⟨w4, hw4⟩ : ∃ w4, (w2.alloc (.cells #[.slice none 0 0] 62)).alloc (.cells (wldC h0 h1 w2.heap.size 0 0 (.slice none 0 0) (.map none)) 43) = w4 := ⟨_, rfl⟩
  have X24 : Fz w2 w4 [] := hw4 ▸ ((Fz.alloc w2 _).trans (Fz.alloc _ _)).mono (by simp)
  have W4 : Bk w4 (w2.heap.size + 1) (wldC h0 h1 w2.heap.size 0 0 (.slice none 0 0) (.map none)) 43 := by
    have := Bk.new (w2.alloc (.cells #[.slice none 0 0] 62)) (wldC h0 h1 w2.heap.size 0 0 (.slice none 0 0) (.map none)) 43
    rw [hw4] at this
    simpa using this
  have N4 : Bk w4 w2.heap.size #[.slice none 0 0] 62 := hw4 ▸ (Bk.new w2 _ _).fz (Fz.alloc _ _) (by simp)
  have hs1 := K0.out.2.2.2.2.size
  have H1 := K1.out.2.2.1.fz X24 (by simp)
  have H0 := (K0.out.2.2.1.fz (Fz.below K1.out.2.2.2.2 (Nat.le_refl _)) (by simp)).fz X24 (by simp)
  have T1 := K1.out.2.2.2.1.fz X24 (by simp) (by simp)
  have T0 := (K0.out.2.2.2.1.fz (Fz.below K1.out.2.2.2.2 (Nat.le_refl _)) (by simp) (by simp)).fz X24 (by simp) (by simp)
  have LT : Keep (w.heap.size ≤ h0 ∧ h0 < w1.heap.size ∧ t0 < w1.heap.size ∧ m0 < w1.heap.size ∧ w1.heap.size ≤ h1 ∧ h1 < w2.heap.size ∧ t1 < w2.heap.size ∧ m1 < w2.heap.size ∧ w.heap.size ≤ w1.heap.size ∧ w1.heap.size ≤ w2.heap.size) :=
    ⟨K0.out.1, K0.out.2.2.1.lt, K0.out.2.2.2.1.lt, K0.out.2.2.2.1.mp.lt, K1.out.1, K1.out.2.2.1.lt, K1.out.2.2.2.1.lt, K1.out.2.2.2.1.mp.lt, hs1, K1.out.2.2.2.2.size⟩
  have NE : Keep (h0 ≠ m0 ∧ h1 ≠ m1 ∧ h0 ≠ t0 ∧ h1 ≠ t1) := ⟨K0.out.2.1, K1.out.2.1, K0.out.2.2.1.ne_ty K0.out.2.2.2.1.bk (by decide), K1.out.2.2.1.ne_ty K1.out.2.2.2.1.bk (by decide)⟩
  have F04 : Keep (Below w.heap.size w w4) := ⟨(K0.out.2.2.2.2.trans (K1.out.2.2.2.2.mono hs1)).trans (X24.toBelow (Nat.le_trans hs1 K1.out.2.2.2.2.size) (by simp))⟩
  have KW4 := Keep.mk W4
  have KN4 := Keep.mk N4
  have KH0 := Keep.mk H0
  have KH1 := Keep.mk H1
  have KT0 := Keep.mk T0
  have KT1 := Keep.mk T1
  have u0 := W4.c 0
  have u1 := W4.c 1
  simp at u0 u1
  rw [hw4]
  clear hw4 X24 W4 N4 hs1 H1 H0 T1 T0 K0 K1 NB
  go_wp2_with fail
  have IX0 : ∀ W : World, (Instr.index 38 (.agg #[.pointer (some ⟨h0, 0, none⟩), .pointer (some ⟨h1, 0, none⟩)]) (.int .i64 0)).run Tryz.prog W = .ok (.pointer (some ⟨h0, 0, none⟩)) W := fun W => by kernel_rfl
  have IX1 : ∀ W : World, (Instr.index 38 (.agg #[.pointer (some ⟨h0, 0, none⟩), .pointer (some ⟨h1, 0, none⟩)]) (.int .i64 1)).run Tryz.prog W = .ok (.pointer (some ⟨h1, 0, none⟩)) W := fun W => by kernel_rfl
  go_loopw [20] (fun i wr => ∃ j : Nat, ((j = 0 ∧ i = .int .i64 0) ∨ (j = 1 ∧ i = .int .i64 1) ∨ (j = 2 ∧ i = .int .i64 2)) ∧ Keep (∃ p0 p1, (j = 0 → p0 = .slice none 0 0) ∧ (j ≤ 1 → p1 = .slice none 0 0) ∧ Bk wr h0 (hostC a 0 (.slice none 0 0) p0 (.slice none 0 0) 0 t0 0 (.slice none 0 0)) 68 ∧ Bk wr h1 (hostC b 0 (.slice none 0 0) p1 (.slice none 0 0) 0 t1 0 (.slice none 0 0)) 68 ∧ Fz w4 wr [h0, h1])) (fun i _ => 2 - (intOf i).toNat)
  case atStart => exact ⟨0, .inl ⟨rfl, rfl⟩, ⟨_, _, fun _ => rfl, fun _ => rfl, KH0.out, KH1.out, (Fz.refl _).mono (by simp)⟩⟩
  case round =>
    obtain ⟨j, ⟨rfl, rfl⟩ | ⟨rfl, rfl⟩ | ⟨rfl, rfl⟩, HQ⟩ := hrel
    all_goals obtain ⟨p0, p1, q0, q1, b0, b1, fz⟩ := HQ.out
    · obtain rfl := q0 rfl
      have LI := Keep.mk (hlisten_any b0)
      have KB1 := Keep.mk b1
      have KF := Keep.mk fz
      have Q1 := Keep.mk q1
      clear b0 b1 fz q1 q0 HQ
      go_wp2_with (first
        | (go_at_call 19
           go_loud (refine LI.out.mono ?_; rintro e w5 ⟨p5, rfl, b5, f5⟩)
           have K5 : Keep (Bk w5 h0 (hostC a 0 (.slice none 0 0) p5 (.slice none 0 0) 0 t0 0 (.slice none 0 0)) 68 ∧ Bk w5 h1 (hostC b 0 (.slice none 0 0) p1 (.slice none 0 0) 0 t1 0 (.slice none 0 0)) 68 ∧ Fz w4 w5 [h0, h1]) := ⟨b5, KB1.out.fz f5 (by simp; have := LT.out; omega), (KF.out.trans f5).mono (by simp <;> omega)⟩
           clear b5 f5)
        | fail)
      go_roundw
      case rel => exact ⟨1, .inr (.inl ⟨rfl, by first | rfl | simp⟩), ⟨p5, p1, fun h => by omega, fun _ => Q1.out (by omega), K5.out⟩⟩
      case measure => simp [intOf]
    · obtain rfl := q1 (Nat.le_refl _)
      have LI := Keep.mk (hlisten_any b1)
      have KB1 := Keep.mk b0
      have KF := Keep.mk fz
      clear b0 b1 fz q1 q0 HQ
      go_wp2_with (first
        | (go_at_call 19
           go_loud (refine LI.out.mono ?_; rintro e w5 ⟨p5, rfl, b5, f5⟩)
           have K5 : Keep (Bk w5 h0 (hostC a 0 (.slice none 0 0) p0 (.slice none 0 0) 0 t0 0 (.slice none 0 0)) 68 ∧ Bk w5 h1 (hostC b 0 (.slice none 0 0) p5 (.slice none 0 0) 0 t1 0 (.slice none 0 0)) 68 ∧ Fz w4 w5 [h0, h1]) := ⟨KB1.out.fz f5 (by simp; have := LT.out; omega), b5, (KF.out.trans f5).mono (by simp <;> omega)⟩
           clear b5 f5)
        | fail)
      go_roundw
      case rel => exact ⟨2, .inr (.inr ⟨rfl, by first | rfl | simp⟩), ⟨p0, p5, fun h => by omega, fun h => by omega, K5.out⟩⟩
      case measure => simp [intOf]
    · have wbs := KW4.out.lt
      have hmk : (Instr.makeMap 41 none).run Tryz.prog wr = .ok (.map (some wr.heap.size)) (wr.alloc (.map #[] 0)) := rfl
      have d0 := Dm.made wr (w2.heap.size + 1)
      obtain ⟨v1, p1, d1, t1⟩ := d0.put (by unfold maxLen; omega) 0 20 (wfI_of (by omega) (by omega))
      obtain ⟨v2, p2, d2, t2⟩ := d1.put (by unfold maxLen; omega) 1 21 (wfI_of (by omega) (by omega))
      obtain ⟨v3, p3, d3, t3⟩ := d2.put (by unfold maxLen; omega) 2 22 (wfI_of (by omega) (by omega))
      obtain ⟨v4, p4, d4, t4⟩ := d3.put (by unfold maxLen; omega) 3 23 (wfI_of (by omega) (by omega))
      obtain ⟨v5, p5, d5, t5⟩ := d4.put (by unfold maxLen; omega) 4 24 (wfI_of (by omega) (by omega))
      obtain ⟨v6, p6, d6, t6⟩ := d5.put (by unfold maxLen; omega) 5 25 (wfI_of (by omega) (by omega))
      obtain ⟨v7, p7, d7, t7⟩ := d6.put (by unfold maxLen; omega) 6 26 (wfI_of (by omega) (by omega))
      obtain ⟨v8, p8, d8, t8⟩ := d7.put (by unfold maxLen; omega) 7 27 (wfI_of (by omega) (by omega))
      obtain ⟨v9, p9, d9, t9⟩ := d8.put (by unfold maxLen; omega) 8 28 (wfI_of (by omega) (by omega))
      obtain ⟨v10, p10, d10, t10⟩ := d9.put (by unfold maxLen; omega) 9 29 (wfI_of (by omega) (by omega))
      obtain ⟨v11, p11, d11, t11⟩ := d10.put (by unfold maxLen; omega) 10 30 (wfI_of (by omega) (by omega))
      obtain ⟨v12, p12, d12, t12⟩ := d11.put (by unfold maxLen; omega) 11 31 (wfI_of (by omega) (by omega))
      obtain ⟨v13, p13, d13, t13⟩ := d12.put (by unfold maxLen; omega) 12 32 (wfI_of (by omega) (by omega))
      obtain ⟨v14, p14, d14, t14⟩ := d13.put (by unfold maxLen; omega) 13 33 (wfI_of (by omega) (by omega))
      obtain ⟨v15, p15, d15, t15⟩ := d14.put (by unfold maxLen; omega) 14 34 (wfI_of (by omega) (by omega))
      obtain ⟨v16, p16, d16, t16⟩ := d15.put (by unfold maxLen; omega) 15 35 (wfI_of (by omega) (by omega))
      have XM : Fz wr v16 [wr.heap.size] := (((((((((((((((((Fz.alloc wr (.map #[] 0)).trans (Ft.turned t1).fz).trans (Ft.turned t2).fz).trans (Ft.turned t3).fz).trans (Ft.turned t4).fz).trans (Ft.turned t5).fz).trans (Ft.turned t6).fz).trans (Ft.turned t7).fz).trans (Ft.turned t8).fz).trans (Ft.turned t9).fz).trans (Ft.turned t10).fz).trans (Ft.turned t11).fz).trans (Ft.turned t12).fz).trans (Ft.turned t13).fz).trans (Ft.turned t14).fz).trans (Ft.turned t15).fz).trans (Ft.turned t16).fz).mono (by simp)
      have XM0 : Fz wr v16 [] := XM.mono (fun k hk hm => by simp at hm; omega)
      have lts := LT.out
      have W5 := (KW4.out.fz fz (by simp; omega)).fz XM0 (by simp)
      have f6 := W5.free 6
      have u6 : v16.cell? ⟨w2.heap.size + 1, 6, none⟩ = some (.map none) := W5.c 6
      have KW5 := Keep.mk W5
      have KN5 := Keep.mk ((KN4.out.fz fz (by simp; omega)).fz XM0 (by simp))
      have KD := Keep.mk d16
      have KF := Keep.mk (fz.trans XM0)
      have KB := Keep.mk (And.intro (b0.fz XM0 (by simp)) (b1.fz XM0 (by simp)))
      have SZ : Keep (w4.heap.size ≤ wr.heap.size ∧ w2.heap.size + 1 < w4.heap.size) := ⟨fz.size, wbs⟩
      clear HQ q0 q1 b0 b1 fz lts XM XM0 W5 wbs d1 t1 d2 t2 d3 t3 d4 t4 d5 t5 d6 t6 d7 t7 d8 t8 d9 t9 d10 t10 d11 t11 d12 t12 d13 t13 d14 t14 d15 t15 d16 t16 d0
      go_wp2_with fail
      go_ret
      have lt := LT.out
      have ne := NE.out
      have tl1 := KT1.out.lowb
      have tl2 := KT1.out.lowm
      have tl3 := KT0.out.lowb
      have tl4 := KT0.out.lowm
      have sz := SZ.out
      have dl := KD.out.lt
      have F9 : Fz w4 (v16.setCell ⟨w2.heap.size + 1, 6, none⟩ (.map (some wr.heap.size))) [h0, h1, w2.heap.size + 1] := (KF.out.trans (Fz.set v16 (w2.heap.size + 1) 6 (.map (some wr.heap.size)))).mono (by simp)
      have FS := Fz.set v16 (w2.heap.size + 1) 6 (.map (some wr.heap.size))
      refine ⟨_, h0, t0, m0, h1, t1, m1, w2.heap.size, wr.heap.size, w1.heap.size, rfl, ⟨KW5.out.set 6 _, KN5.out.fz FS (by simp), ⟨⟨_, KB.out.1.fz FS (by simp; omega)⟩, KT0.out.fz F9 (by simp; omega) (by simp; omega), lt.1⟩, ⟨⟨_, KB.out.2.fz FS (by simp; omega)⟩, KT1.out.fz F9 (by simp; omega) (by simp; omega), lt.2.2.2.2.1⟩, KD.out.same (FS.block _ dl (by simp; omega)), ⟨lt.2.1, lt.2.2.1, lt.2.2.2.1, lt.2.2.2.2.2.2.2.2.1⟩, ⟨lt.2.2.2.2.2.1, lt.2.2.2.2.2.2.1, lt.2.2.2.2.2.2.2.1, lt.2.2.2.2.2.2.2.2.2, by omega, by omega⟩, F04.out.trans (F9.toBelow (by omega) (by simp; omega))⟩⟩
end Go.Proofs.YtaoibkofihkhoaaGreatDoor
/-
  A world asked: its hosts, its packets, whether it is quiet.
-/
namespace Go.Proofs.YtaoibkofihkhoaaGreatDoor
open Go.RowKit Go.Maps

theorem two_hosts (h0 h1 : Nat) : (∀ W : World, (Instr.index 38 (.agg #[.pointer (some ⟨h0, 0, none⟩), .pointer (some ⟨h1, 0, none⟩)]) (.int .i64 0)).run Tryz.prog W = .ok (.pointer (some ⟨h0, 0, none⟩)) W) ∧
    (∀ W : World, (Instr.index 38 (.agg #[.pointer (some ⟨h0, 0, none⟩), .pointer (some ⟨h1, 0, none⟩)]) (.int .i64 1)).run Tryz.prog W = .ok (.pointer (some ⟨h1, 0, none⟩)) W) :=
  ⟨fun W => by kernel_rfl, fun W => by kernel_rfl⟩
section
variable {w : World} {wb h0 t0 m0 h1 t1 m1 nb lo0 lo1 : Nat} {a b k0 k1 n0 n1 : Int} {lv dv : Value} {A : Option Addr} {cc : Nat}
set_option maxRecDepth 100000 in
/-- A world on whose net something is isn't quiet. -/
theorem wquiet_busy {n : Nat} (hw : Bk w wb (wldC h0 h1 nb n0 n1 lv dv) 43) (hn : Bk w nb #[.slice A n cc] 62) (hpos : 0 < n) :
    Calls Tryz.prog 9 #[.pointer (some ⟨wb, 0, none⟩)] w fun e w' => e = .returned (.bool false) ∧ w' = w := by
  have c2 : w.cell? ⟨wb, 2, none⟩ = some (.pointer (some ⟨nb, 0, none⟩)) := hw.c 2
  have NL := Keep.mk (netlen_any nb A n cc w hn)
  have hp : (0 : Int) < (n : Int) := by omega
  clear hw hn hpos
  go_enter Tryz.func9, Tryz.ntmps9
  go_wp2_with (first
    | (go_at_call 14
       go_loud (refine NL.out.mono ?_; rintro e X ⟨rfl, hX⟩)
       rw [hX]
       clear hX)
    | fail)
  go_ret
  exact ⟨rfl, rfl⟩
set_option maxRecDepth 100000 in
set_option maxHeartbeats 1600000 in
/-- A world of two hosts that have nothing is quiet. -/
theorem wquiet_idle (hw : Bk w wb (wldC h0 h1 nb n0 n1 lv dv) 43) (hn : Bk w nb #[.slice A 0 cc] 62) (i0 : HIdle lo0 w h0 t0 m0 a k0) (i1 : HIdle lo1 w h1 t1 m1 b k1) :
    Calls Tryz.prog 9 #[.pointer (some ⟨wb, 0, none⟩)] w fun e w' => e = .returned (.bool true) ∧ Below w.heap.size w w' := by
  have c0 : w.cell? ⟨wb, 0, none⟩ = some (.pointer (some ⟨h0, 0, none⟩)) := hw.c 0
  have c1 : w.cell? ⟨wb, 1, none⟩ = some (.pointer (some ⟨h1, 0, none⟩)) := hw.c 1
  have c2 : w.cell? ⟨wb, 2, none⟩ = some (.pointer (some ⟨nb, 0, none⟩)) := hw.c 2
  have NL := Keep.mk (netlen_any nb A 0 cc w hn)
  obtain ⟨p0, b0⟩ := i0.blk
  have CN0 := Keep.mk (hcounts_none b0)
  have TN0 := Keep.mk (htokens_none b0 i0.tab)
  have I1 := Keep.mk i1
  obtain ⟨IX0, IX1⟩ := two_hosts h0 h1
  clear hw hn b0 i0 i1
  go_enter Tryz.func9, Tryz.ntmps9
  go_wp2_with (first
    | (go_at_call 14
       go_loud (refine NL.out.mono ?_; rintro e X ⟨rfl, hX⟩)
       rw [hX]
       clear hX)
    | fail)
  go_loopw [22] (fun i wr => (i = .int .i64 0 ∧ wr = w) ∨ (i = .int .i64 1 ∧ Keep (Below w.heap.size w wr)) ∨ (i = .int .i64 2 ∧ Keep (Below w.heap.size w wr))) (fun i _ => 2 - (intOf i).toNat)
  case atStart => exact .inl ⟨rfl, rfl⟩
  case round =>
    rcases hrel with ⟨rfl, rfl⟩ | ⟨rfl, HQ⟩ | ⟨rfl, HQ⟩
    · go_wp2_with (first
        | (go_at_call 15
           go_loud (refine CN0.out.mono ?_; rintro e X ⟨rfl, hX⟩)
           rw [hX]
           clear hX)
        | (go_at_call 16
           go_loud (refine TN0.out.mono ?_; rintro e w1 ⟨A1, c1', rfl, b1⟩)
           have KB := Keep.mk b1
           clear b1)
        | fail)
      go_roundw
      case rel => exact .inr (.inl ⟨rfl, KB⟩)
      case measure => simp [intOf]
    · have i2 := I1.out.fz (Fz.below HQ.out (Nat.le_refl _)) (by simp) (by simp) (by simp)
      obtain ⟨p1, b1⟩ := i2.blk
      have CN1 := Keep.mk (hcounts_none b1)
      have TN1 := Keep.mk (htokens_none b1 i2.tab)
      clear i2 b1
      go_wp2_with (first
        | (go_at_call 15
           go_loud (refine CN1.out.mono ?_; rintro e X ⟨rfl, hX⟩)
           rw [hX]
           clear hX)
        | (go_at_call 16
           go_loud (refine TN1.out.mono ?_; rintro e w1 ⟨A1, c1', rfl, b1⟩)
           have KB := Keep.mk (HQ.out.trans (b1.mono HQ.out.size))
           clear b1)
        | fail)
      go_roundw
      case rel => exact .inr (.inr ⟨rfl, KB⟩)
      case measure => simp [intOf]
    · go_wp2_with fail
      go_ret
      exact ⟨rfl, HQ.out⟩
end
end Go.Proofs.YtaoibkofihkhoaaGreatDoor
