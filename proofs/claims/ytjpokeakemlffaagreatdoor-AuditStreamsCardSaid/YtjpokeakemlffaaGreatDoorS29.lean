/-
  Walks and laws, one behind the other (part 29).
-/
import Derived.Laws.BitsLemmas
import Derived.Test.YtjpokeakemlffaaGreatDoorS2
import Derived.Test.YtjpokeakemlffaaGreatDoorS20
import Derived.Test.YtjpokeakemlffaaGreatDoorS22
import Derived.Test.YtjpokeakemlffaaGreatDoorS28
set_option linter.unusedSimpArgs false
set_option linter.unusedVariables false
/-
  A host: its block, the keys that it draws.
-/
namespace Go.Proofs.YtjpokeakemlffaaGreatDoor
open Go.RowKit
abbrev hostC (seed drawn : Int) (pv ports lv : Value) (made : Int) (tb : Nat) (tick : Int) (outv : Value) : Array Value := #[.int .u64 seed, .int .u64 drawn, pv, ports, lv, .int .i64 made, .pointer (some ⟨tb, 0, none⟩), .int .i64 tick, outv]
theorem Ft.fz {w w' : World} {m : Nat} (h : Ft w w' m) : Fz w w' [m] := ⟨h.os, h.tape, h.output, h.size, fun k hk hn => h.block k hk (by simpa using hn)⟩
theorem Tb.fz {w w' : World} {base b m nb : Nat} {most : Int} {M : Int → Option En} {k : Nat} {cs : List Nat} (h : Tb w base b m nb most M k) (F : Fz w w' cs) (h1 : b ∉ cs) (h2 : m ∉ cs) : Tb w' base b m nb most M k :=
  ⟨h.lowb, h.lowm, h.ne, (F.block b h.lt h1).trans h.blk, h.mp.same (F.block m h.mp.lt h2)⟩
theorem Tb.bk {w : World} {base b m nb : Nat} {most : Int} {M : Int → Option En} {k : Nat} (h : Tb w base b m nb most M k) : Bk w b #[.int .i64 most, .map (some m)] 128 := ⟨h.blk⟩
structure Prm (w : World) (pv : Value) (ps : List Int) : Prop where
  wf : ∀ x ∈ ps, 0 ≤ x ∧ x < 18446744073709551616
  ex : ∃ A c, pv = .slice A ps.length c ∧ ps.length ≤ c ∧ (ps ≠ [] → ∃ b off cur, A = some ⟨b, off, none⟩ ∧ Bk w b cur 42 ∧ ∀ i x, ps[i]? = some x → cur[off + i]? = some (.int .u64 x))
theorem Prm.nil (w : World) : Prm w (.slice none 0 0) [] := ⟨by simp, none, 0, rfl, Nat.le_refl _, fun h => absurd rfl h⟩
theorem Prm.fz {w w' : World} {pv : Value} {ps : List Int} {cs : List Nat} (h : Prm w pv ps) (F : Fz w w' cs) (hn : ∀ b cur, Bk w b cur 42 → b ∉ cs) : Prm w' pv ps := by
  obtain ⟨A, c, h1, h2, h3⟩ := h.ex
  refine ⟨h.wf, A, c, h1, h2, fun hne => ?_⟩
  obtain ⟨b, off, cur, e1, e2, e3⟩ := h3 hne
  exact ⟨b, off, cur, e1, e2.fz F (hn b cur e2), e3⟩
set_option maxRecDepth 100000 in
theorem hnew_any (seed : Int) (w : World) : Calls Tryz.prog 23 #[.int .u64 seed] w fun e w' => ∃ hb tb m, e = .returned (.pointer (some ⟨hb, 0, none⟩)) ∧ w.heap.size ≤ hb ∧ hb ≠ m ∧
    Bk w' hb (hostC seed 0 (.slice none 0 0) (.slice none 0 0) (.slice none 0 0) 0 tb 0 (.slice none 0 0)) 92 ∧ Tb w' w.heap.size tb m 0 4 (fun _ => none) 0 ∧ Below w.heap.size w w' := by
  have TN := Keep.mk (tnew_any 4 w)
  go_enter Tryz.func23, Tryz.ntmps23
  go_wp2_with (first
    | (go_at_call 49
       go_loud (refine TN.out.mono ?_; rintro e w1 ⟨rfl, t1, b1⟩)
       rw [show min (max (4 : Int) 1) 64 = 4 by decide] at t1
       have T1 := Keep.mk t1
       have B1 := Keep.mk b1
       clear t1 b1)
    | fail)
  go_ret
  have s1 := T1.out.lt
  have s2 := T1.out.mp.lt
  exact ⟨w1.heap.size, w.heap.size + 1, w.heap.size, rfl, B1.out.size, by omega, Bk.new w1 _ _, T1.out.below ((Below.refl _ w1).alloc (Nat.le_refl _) _), B1.out.alloc B1.out.size _⟩
structure Drw (w w' : World) (hb tb : Nat) (seed made tick : Int) (ports lv outv : Value) : Prop where
  ex : ∃ drawn' pv' ps', Bk w' hb (hostC seed drawn' pv' ports lv made tb tick outv) 92 ∧ Prm w' pv' ps' ∧ Fz w w' [hb]
section
variable {w : World} {hb tb : Nat} {seed drawn made tick : Int} {pv ports lv outv : Value} {ps : List Int}
theorem or_bd (a b : Int) : 0 ≤ bits .or .u64 a b ∧ bits .or .u64 a b < 18446744073709551616 := by
  show 0 ≤ IntKind.u64.wrap _ ∧ IntKind.u64.wrap _ < _
  rw [IntKind.wrap_u64]
  omega
set_option maxRecDepth 100000 in
theorem hpeek_any (h : Bk w hb (hostC seed drawn pv ports lv made tb tick outv) 92) (hp : Prm w pv ps) :
    Calls Tryz.prog 147 #[.pointer (some ⟨hb, 0, none⟩)] w fun e w' => ∃ x, e = .returned (.int .u64 x) ∧ 0 ≤ x ∧ x < 18446744073709551616 ∧ Below w.heap.size w w' := by
  obtain ⟨A, cc, rfl, hl, hx⟩ := hp.ex
  have c0 : w.cell? ⟨hb, 0, none⟩ = some (.int .u64 seed) := h.c 0
  have c1 : w.cell? ⟨hb, 1, none⟩ = some (.int .u64 drawn) := h.c 1
  have c2 : w.cell? ⟨hb, 2, none⟩ = some (.slice A ps.length cc) := h.c 2
  cases ps with
  | nil =>
    have c2 : w.cell? ⟨hb, 2, none⟩ = some (.slice A 0 cc) := c2
    clear h hp hx hl
    obtain ⟨n1, hn1⟩ : ∃ n1, IntKind.u64.wrap (drawn + 1) = n1 := ⟨_, rfl⟩
    obtain ⟨x1, hx1⟩ : ∃ x1, bits .xor .u64 seed n1 = x1 := ⟨_, rfl⟩
    have TK := Keep.mk (fun W : World => token_any x1 W (by rw [← hx1]; exact (xr_bd _ _).1) (by rw [← hx1]; exact (xr_bd _ _).2))
    go_enter Tryz.func147, Tryz.ntmps147
    go_wp2_with (first
      | (go_at_call 213
         go_loud (refine (TK.out _).mono ?_; rintro e w1 ⟨rfl, b1⟩)
         have B1 := Keep.mk b1
         clear b1)
      | fail)
    go_ret
    exact ⟨_, rfl, (or_bd _ _).1, (or_bd _ _).2, B1.out⟩
  | cons x r =>
    obtain ⟨b, off, cur, rfl, hb1, hcur⟩ := hx (by simp)
    have d0 : w.cell? ⟨b, off, none⟩ = some (.int .u64 x) := (hb1.c off).trans (hcur 0 x rfl)
    have hwf := Keep.mk (hp.wf x (by simp))
    have c2 : w.cell? ⟨hb, 2, none⟩ = some (.slice (some ⟨b, off, none⟩) (r.length + 1) cc) := c2
    have hpos : (0 : Int) < ((r.length + 1 : Nat) : Int) := by omega
    clear h hp hx hl hb1 hcur
    go_enter Tryz.func147, Tryz.ntmps147
    go_wp2_with fail
    go_ret
    exact ⟨x, rfl, hwf.out.1, hwf.out.2, Below.refl _ _⟩
set_option maxRecDepth 100000 in
set_option maxHeartbeats 1600000 in
theorem hdraw_any (h : Bk w hb (hostC seed drawn pv ports lv made tb tick outv) 92) (hp : Prm w pv ps) :
    Calls Tryz.prog 148 #[.pointer (some ⟨hb, 0, none⟩)] w fun e w' => (∃ x, e = .returned (.int .u64 x)) ∧ Drw w w' hb tb seed made tick ports lv outv := by
  obtain ⟨A, cc, rfl, hl, hx⟩ := hp.ex
  have c0 : w.cell? ⟨hb, 0, none⟩ = some (.int .u64 seed) := h.c 0
  have c1 : w.cell? ⟨hb, 1, none⟩ = some (.int .u64 drawn) := h.c 1
  have c2 : w.cell? ⟨hb, 2, none⟩ = some (.slice A ps.length cc) := h.c 2
  have f1 := h.free 1
  have f2 := h.free 2
  cases ps with
  | nil =>
    have c2 : w.cell? ⟨hb, 2, none⟩ = some (.slice A 0 cc) := c2
    obtain ⟨n1, hn1⟩ : ∃ n1, IntKind.u64.wrap (drawn + 1) = n1 := ⟨_, rfl⟩
    obtain ⟨x1, hx1⟩ : ∃ x1, bits .xor .u64 seed n1 = x1 := ⟨_, rfl⟩
    have TK := Keep.mk (fun W : World => token_any x1 W (by rw [← hx1]; exact (xr_bd _ _).1) (by rw [← hx1]; exact (xr_bd _ _).2))
    have B1 : Bk (w.setCell ⟨hb, 1, none⟩ (.int .u64 n1)) hb (hostC seed n1 (.slice A 0 cc) ports lv made tb tick outv) 92 := h.set 1 _
    have X1 := Fz.set w hb 1 (.int .u64 n1)
    have P1 := hp.fz X1 (fun b cur hb' => by simp; exact hb'.ne_ty h (by decide))
    have d0 : (w.setCell ⟨hb, 1, none⟩ (.int .u64 n1)).drew.cell? ⟨hb, 0, none⟩ = some (.int .u64 seed) := B1.c 0
    have d1 : (w.setCell ⟨hb, 1, none⟩ (.int .u64 n1)).drew.cell? ⟨hb, 1, none⟩ = some (.int .u64 n1) := B1.c 1
    have KB := Keep.mk B1
    have KX := Keep.mk X1
    have KP := Keep.mk P1
    clear h hp hx hl B1 X1 P1
    go_enter Tryz.func148, Tryz.ntmps148
    go_wp2_with fail
    go_region_held3 (fun W => W.cell? ⟨hb, 0, none⟩ = some (.int .u64 seed) ∧ W.cell? ⟨hb, 1, none⟩ = some (.int .u64 n1))
      (first | exact ⟨d0, d1⟩ | exact ⟨KB2.out.c 0, KB2.out.c 1⟩)
      (first
        | (go_at_call 213
           go_loud (refine (TK.out _).mono ?_; rintro e w1 ⟨rfl, b1⟩)
           have X2 : Keep (Fz (w.setCell ⟨hb, 1, none⟩ (.int .u64 n1)) w1 []) := ⟨((Fz.drew _ 1).trans (Fz.below b1 (Nat.le_refl _))).mono (by simp)⟩
           have KB2 := Keep.mk (KB.out.fz X2.out (by simp))
           clear b1)
        | fail)
    go_wp2_with fail
    go_ret
    exact ⟨⟨_, rfl⟩, ⟨n1, _, [], KB2.out, KP.out.fz X2.out (fun _ _ _ => by simp), (KX.out.trans X2.out).mono (by simp)⟩⟩
  | cons x r =>
    obtain ⟨b, off, cur, rfl, hb1, hcur⟩ := hx (by simp)
    have d0 : w.cell? ⟨b, off, none⟩ = some (.int .u64 x) := (hb1.c off).trans (hcur 0 x rfl)
    have c2 : w.cell? ⟨hb, 2, none⟩ = some (.slice (some ⟨b, off, none⟩) (r.length + 1) cc) := c2
    have hpos : (0 : Int) < ((r.length + 1 : Nat) : Int) := by omega
    have HBB := Keep.mk h
    have HPP := Keep.mk hp
    have HB1 := Keep.mk hb1
    have HCR := Lib.hid hcur
    have HL := Keep.mk hl
    clear h hp hx hl hb1 hcur
    have NHB : Keep (∀ b' cur', Bk w b' cur' 42 → b' ∉ [hb]) := ⟨fun b' cur' hb' => by simp; exact hb'.ne_ty HBB.out (by decide)⟩
    have WFR : Keep (∀ y ∈ r, 0 ≤ y ∧ y < 18446744073709551616) := ⟨fun y hy => HPP.out.wf y (by simp [hy])⟩
    go_enter Tryz.func148, Tryz.ntmps148
    go_wp2_with fail
    all_goals
      go_ret
      refine ⟨⟨x, rfl⟩, ⟨drawn, _, r, HBB.out.set 2 _, Prm.fz (w := w) ?_ (Fz.set w hb 2 _) NHB.out, Fz.set _ _ _ _⟩⟩
    · have hr : r = [] := by
        have := HL.out
        rw [List.length_cons] at this
        exact List.eq_nil_of_length_eq_zero (by omega)
      subst hr
      exact ⟨WFR.out, _, _, rfl, Nat.le_refl _, fun h => absurd rfl h⟩
    · refine ⟨WFR.out, _, _, rfl, by have := HL.out; simp at this; omega, fun _ => ⟨b, off + 1, cur, rfl, HB1.out, fun i y hy => ?_⟩⟩
      have := HCR.out (i + 1) y (by simpa using hy)
      rw [show off + 1 + i = off + (i + 1) by omega]
      exact this
end
end Go.Proofs.YtjpokeakemlffaaGreatDoor
/-
  A host takes a key.
-/
namespace Go.Proofs.YtjpokeakemlffaaGreatDoor
open Go.RowKit
structure Hst (lo : Nat) (w : World) (hb tb m nbt : Nat) (seed : Int) (ports lv : Value) (made tick : Int) (outv : Value) (M : Int → Option En) (k : Nat) : Prop where
  ex : ∃ drawn pv ps, Bk w hb (hostC seed drawn pv ports lv made tb tick outv) 92 ∧ Prm w pv ps
  tab : Tb w lo tb m nbt 4 M k
theorem Hst.ne {lo : Nat} {w : World} {hb tb m nbt : Nat} {seed : Int} {ports lv : Value} {made tick : Int} {outv : Value} {M : Int → Option En} {k : Nat} (h : Hst lo w hb tb m nbt seed ports lv made tick outv M k) : hb ≠ tb ∧ hb ≠ m ∧ ∀ b arr ty, Bk w b arr ty → b ≠ m := by
  obtain ⟨_, _, _, hB, _⟩ := h.ex
  have key : ∀ b arr ty, Bk w b arr ty → b ≠ m := fun b arr ty hb e => by
    subst e
    obtain ⟨D, ⟨es, clock, he, _⟩, _⟩ := h.tab.mp
    rw [hb.eq] at he
    cases he
  exact ⟨hB.ne_ty h.tab.bk (by decide), key _ _ _ hB, key⟩
theorem took_one {w w' : World} {base b m nb k : Nat} {M : Int → Option En} {o x : Int} {e : Ending} (h : Took w base b m nb 4 M k o [x] e w') :
    ∃ kk ii er, e = .returned (.tuple #[.int .u64 kk, .int .i64 ii, .int .i64 er]) ∧ Ft w w' m ∧ ((er = 15 ∧ k = 4 ∧ Tb w' base b m nb 4 M k) ∨ (er = 6 ∧ (k ≠ 4 ∧ ∃ t, (M t).isSome = true) ∧ Tb w' base b m nb 4 M k) ∨
      (er = 0 ∧ kk = x ∧ k ≠ 4 ∧ M (tokN x) = none ∧ Tb w' base b m (nb + 1) 4 (setT M (tokN x) (some ⟨o, true, 0⟩)) (k + 1))) := by
  rcases h with ⟨hk, rfl, t, f⟩ | ⟨hk, hx, rfl, t, f⟩ | ⟨hk, i, key, hi, _, hM, rfl, t, f⟩
  · exact ⟨_, _, 15, rfl, f, .inl ⟨rfl, by omega, t⟩⟩
  · exact ⟨_, _, 6, rfl, f, .inr (.inl ⟨rfl, ⟨by omega, _, hx x (by simp)⟩, t⟩)⟩
  · obtain ⟨rfl, rfl⟩ : i = 0 ∧ key = x := by
      cases i with
      | zero => exact ⟨rfl, by simpa using hi.symm⟩
      | succ i => simp at hi
    exact ⟨_, _, 0, rfl, f, .inr (.inr ⟨rfl, rfl, by omega, hM, t⟩)⟩
set_option maxRecDepth 100000 in
set_option maxHeartbeats 6400000 in
theorem htake_any {lo : Nat} {w : World} {hb tb m nbt : Nat} {seed : Int} {ports lv : Value} {made tick : Int} {outv : Value} {M : Int → Option En} {k : Nat} (o : Int) (h : Hst lo w hb tb m nbt seed ports lv made tick outv M k) (hnb : nbt < 100000) :
    Calls Tryz.prog 91 #[.pointer (some ⟨hb, 0, none⟩), .int .i64 o] w fun e w' => Fz w w' [hb, m] ∧
      ((∃ er, ((er = 15 ∧ k = 4) ∨ (er = 6 ∧ (k ≠ 4 ∧ ∃ t, (M t).isSome = true))) ∧ e = .returned (.tuple #[.int .u64 0, .int .i64 er]) ∧ Hst lo w' hb tb m nbt seed ports lv made tick outv M k) ∨
       (∃ x, 0 ≤ x ∧ x < 18446744073709551616 ∧ e = .returned (.tuple #[.int .u64 x, .int .i64 0]) ∧ k ≠ 4 ∧ M (tokN x) = none ∧ Hst lo w' hb tb m (nbt + 1) seed ports lv made tick outv (setT M (tokN x) (some ⟨o, true, 0⟩)) (k + 1))) := by
  have HH := Keep.mk h
  have HNB := Keep.mk hnb
  clear h hnb
  go_enter Tryz.func91, Tryz.ntmps91
  go_wp2_with fail
  go_loopw [6, 8] (fun e i wr => ∃ j : Nat, j ≤ 4 ∧ i = .int .i64 j ∧ e = .int .i64 6 ∧ Keep (Hst lo wr hb tb m nbt seed ports lv made tick outv M k ∧ Fz w wr [hb, m] ∧ (j = 0 ∨ (k ≠ 4 ∧ ∃ t, (M t).isSome = true)))) (fun _ i _ => 4 - (intOf i).toNat)
  case atStart => exact ⟨0, by omega, rfl, rfl, ⟨HH.out, (Fz.refl w).mono (by simp), .inl rfl⟩⟩
  case round =>
    obtain ⟨j, hj, rfl, rfl, HR⟩ := hrel
    rcases Nat.lt_or_ge j 4 with hlt | hge
    · obtain ⟨drawn, pv, ps, hB, hP⟩ := HR.out.1.ex
      have hji : ((j : Nat) : Int) < 4 := by omega
      have NE := Keep.mk HR.out.1.ne
      have HB0 := Keep.mk (hB.fz (Fz.drew wr 1) (by simp))
      have P0 := Keep.mk (hP.fz (Fz.drew wr 1) (fun _ _ _ => by simp))
      have T0 := Keep.mk (HR.out.1.tab.fz (Fz.drew wr 1) (by simp) (by simp))
      have PK := Keep.mk (hpeek_any HB0.out P0.out)
      clear hB hP
      go_wp2_with fail
      go_region_held3 (fun W => W.cell? ⟨hb, 6, none⟩ = some (.pointer (some ⟨tb, 0, none⟩)))
        (first | exact HB0.out.c 6 | exact HB1.out.c 6 | exact HB2.out.c 6 | exact HB3.out.c 6)
        (first
          | (go_at_call 147
             go_loud (refine PK.out.mono ?_; rintro e w1 ⟨x, rfl, x0, x1, b1⟩)
             have F1 := Fz.below b1 (Nat.le_refl _)
             have F2 := F1.trans (Fz.alloc w1 (.cells #[.int .u64 x] 42))
             have HB1 := Keep.mk (HB0.out.fz F1 (by simp))
             have HB2 := Keep.mk (HB0.out.fz F2 (by simp))
             have P2 := Keep.mk (P0.out.fz F2 (fun _ _ _ => by simp))
             have T2 := T0.out.fz F2 (by simp) (by simp)
             have C2 := Keep.mk (tk_take _ _ _ _ _ _ _ o _ 1 1 [x] _ T2 (Arg.new' w1 _ rfl 42 (0, 0) 1 encU encU_length [x] 1 rfl (by decide)) (by simp; exact ⟨x0, x1⟩) (by omega) (by have := HNB.out; omega))
             have X2 : Keep (Fz wr (w1.alloc (.cells #[.int .u64 x] 42)) [] ∧ 0 ≤ x ∧ x < 18446744073709551616) := ⟨((Fz.drew wr 1).trans F2).mono (by simp), x0, x1⟩
             clear b1 F1 F2 T2 x0 x1)
          | (go_at_call 146
             go_loud (refine C2.out.mono ?_; rintro e w3 h3)
             obtain ⟨kk, ii, er, rfl, f3, td⟩ := took_one h3
             have F3 := f3.fz
             have HB3 := Keep.mk (HB2.out.fz F3 (by simp; exact NE.out.2.1))
             have P3 := Keep.mk (P2.out.fz F3 (fun b cur hb' => by
               simp
               rintro rfl
               exact HR.out.1.ne.2.2 _ _ _ ⟨(X2.out.1.block _ HR.out.1.tab.mp.lt (by simp)).symm.trans hb'.eq⟩ rfl))
             have TD := Keep.mk td
             have X3 : Keep (Fz w w3 [hb, m]) := ⟨((HR.out.2.1.trans X2.out.1).trans F3).mono (fun x _ hx => by simp only [List.mem_append, List.mem_cons, List.not_mem_nil, or_false] at hx ⊢; omega)⟩
             have DR := Keep.mk (hdraw_any HB3.out P3.out)
             clear h3 f3 td F3)
          | fail)
      rcases TD.out with ⟨rfl, hk, t3⟩ | ⟨rfl, hk, t3⟩ | ⟨rfl, rfl, hk, hM, t3⟩
      · have T3 := Keep.mk t3
        have HK := Keep.mk hk
        clear hk t3 TD
        go_wp2_with fail
        refine bodyPost_ret (results_tmp2 rfl _ _ _) rfl ⟨X3.out, .inl ⟨15, .inl ⟨rfl, HK.out⟩, rfl, ⟨⟨_, _, _, HB3.out, P3.out⟩, T3.out⟩⟩⟩
      · have T3 := Keep.mk t3
        have HK := Keep.mk hk
        clear hk t3 TD
        go_wp2_with (first
          | (go_at_call 148
             go_loud (refine DR.out.mono ?_; rintro e w4 ⟨⟨y, rfl⟩, dw⟩)
             obtain ⟨dr4, pv4, ps4, hb4, pr4, x4⟩ := dw.ex
             have T4 := Keep.mk (T3.out.fz x4 (by simp; exact NE.out.1.symm) (by simp; exact NE.out.2.1.symm))
             have HB4 := Keep.mk (And.intro hb4 pr4)
             have X4 : Keep (Fz w w4 [hb, m]) := ⟨(X3.out.trans x4).mono (fun x _ hx => by simp only [List.mem_append, List.mem_cons, List.not_mem_nil, or_false] at hx ⊢; omega)⟩
             clear hb4 pr4 x4 dw)
          | fail)
        go_roundw
        case rel => exact ⟨j + 1, by omega, by go_num, by first | rfl | trivial, ⟨⟨⟨_, _, _, HB4.out⟩, T4.out⟩, X4.out, .inr HK.out⟩⟩
        case measure => simp [intOf] <;> omega
      · have T3 := Keep.mk t3
        have HK := Keep.mk (And.intro hk hM)
        clear hk hM t3 TD
        go_wp2_with (first
          | (go_at_call 148
             go_loud (refine DR.out.mono ?_; rintro e w4 ⟨⟨y, rfl⟩, dw⟩)
             obtain ⟨dr4, pv4, ps4, hb4, pr4, x4⟩ := dw.ex
             have T4 := Keep.mk (T3.out.fz x4 (by simp; exact NE.out.1.symm) (by simp; exact NE.out.2.1.symm))
             have HB4 := Keep.mk (And.intro hb4 pr4)
             have X4 : Keep (Fz w w4 [hb, m]) := ⟨(X3.out.trans x4).mono (fun x _ hx => by simp only [List.mem_append, List.mem_cons, List.not_mem_nil, or_false] at hx ⊢; omega)⟩
             clear hb4 pr4 x4 dw)
          | fail)
        refine bodyPost_ret (results_tmp2 rfl _ _ _) rfl ⟨X4.out, .inr ⟨kk, X2.out.2.1, X2.out.2.2, rfl, HK.out.1, HK.out.2, ⟨⟨_, _, _, HB4.out⟩, T4.out⟩⟩⟩
    · obtain rfl : j = 4 := by omega
      go_wp2_with fail
      refine bodyPost_ret (results_tmp2 rfl _ _ _) rfl ⟨HR.out.2.1, .inl ⟨6, .inr ⟨rfl, ?_⟩, rfl, HR.out.1⟩⟩
      rcases HR.out.2.2 with h | h
      · cases h
      · exact h
end Go.Proofs.YtjpokeakemlffaaGreatDoor
/-
  A host's handles: one more; those that are gone.
-/
namespace Go.Proofs.YtjpokeakemlffaaGreatDoor
open Go.RowKit
theorem append_more {w : World} {ops : Array Oper} {rest : List Oper} {o : Oper} {a : Act} {Q : Exit → Act → World → Prop} (hgd : o.guard = none) (s x : Operand) (t ty : TypeId)
    (ho : o.op = .call { callee := .builtin .append, args := #[s, x], argTypes := #[t, t] }) (ht : Tryz.prog.underlying t = some (.slice ty)) {z : Value} {k by' : Nat} (hinf : (Tryz.prog.info? ty).map (fun i => (i.zero, i.size, i.bytes)) = some (some z, k, by'))
    (hzs : z.cells.size = k) (hk : 0 < k) (hb : by' ≤ 1000) (v : Value) (hs : a.eval s = v) (g : Nat) (cs : List Value) (hlen : cs.length = k) (hx : a.eval x = .slice (some ⟨g, 0, none⟩) 1 1) (hc : ∀ j u, cs[j]? = some u → w.cell? ⟨g, j, none⟩ = some u) (hgl : g < w.heap.size)
    (h1 : ∀ u ∈ cs, u.oneCell' = true) (base n : Nat) (xs : List Value) (hown : w.ownsRow base ty k v n xs) (hbase : base ≤ w.heap.size) (hn : n ≤ 1000000)
    (h : ∀ v' w', w'.ownsRow base ty k v' (n + 1) (xs ++ cs) → w.grownBy w' v.ownBlock → (v'.ownBlock = v.ownBlock ∨ v'.ownBlock = some w.heap.size) → wpList Tryz.prog ops Q rest (a.put o.dst v') w') :
    wpList Tryz.prog ops Q (o :: rest) a w := by
  obtain ⟨i0, hi, hz0, hz1, hz2⟩ := info_parts hinf
  have hby : (n + 1) * by' ≤ 140737488355328 := Nat.le_trans (Nat.mul_le_mul (by omega : n + 1 ≤ 1000001) hb) (by decide)
  refine wpList_append_rd (α := Unit) hgd s x t ho base ty i0 z k by' ht hi hz0 hz1 hz2 hzs hk v n xs hs hown _ 1 1 w.heap.size (fun _ => cs) [()] hx (by intro e; cases e) rfl (fun _ => hlen) (fun _ => ⟨g, 0, rfl, hgl, fun i y hy j u hu => ?_⟩) (fun _ => h1) (by unfold maxLen; omega) hby hbase ?_
  · cases i with
    | zero => simpa using hc j u hu
    | succ i => simp at hy
  · intro v' w' h1 h2 h3
    exact h v' w' (by simpa using h1) h2 h3
theorem infoSock : (Tryz.prog.info? 138).map (fun i => (i.zero, i.size, i.bytes)) = some (some (.pointer none), 1, 8) := by kernel_rfl
abbrev sockC (c : Nat) (hd sn : Int) : Array Value := #[.pointer (some ⟨c, 0, none⟩), .int .i64 hd, .int .i64 0, .bool false, .int .i64 sn, .bool false, .bool false]
def skC (s : Nat × Nat) : List Value := [.pointer (some ⟨s.1, 0, none⟩)]
theorem skC_length (s : Nat × Nat) : (skC s).length = 1 := rfl
structure Sk (w : World) (lo : Nat) (lv : Value) (l : List (Nat × Nat)) : Prop where
  row : w.ownsRow lo 138 1 lv l.length (l.flatMap skC)
  sk : ∀ s ∈ l, ∃ hd sn, Bk w s.1 (sockC s.2 hd sn) 141
theorem Sk.nil (w : World) (lo : Nat) : Sk w lo (.slice none 0 0) [] := ⟨World.ownsRow_nil _ _ _ _, fun _ h => by cases h⟩
theorem Sk.fz {w w' : World} {lo : Nat} {lv : Value} {l : List (Nat × Nat)} {cs : List Nat} (h : Sk w lo lv l) (F : Fz w w' cs) (h1 : ∀ b cur, Bk w b cur 138 → b ∉ cs) (h2 : ∀ b cur, Bk w b cur 141 → b ∉ cs) : Sk w' lo lv l :=
  ⟨own_blockW h.row (w' := w') (fun kb e => let ⟨_, _, hb⟩ := own_ty h.row e; F.block kb hb.lt (h1 _ _ hb)), fun s hs => let ⟨hd, sn, hb⟩ := h.sk s hs; ⟨hd, sn, hb.fz F (h2 _ _ hb)⟩⟩
section
variable {lo : Nat} {w : World} {hb tb m nbt : Nat} {seed : Int} {ports lv : Value} {made tick : Int} {outv : Value} {M : Int → Option En} {k : Nat} {l : List (Nat × Nat)}
theorem Hst.fz {w' : World} {cs : List Nat} (h : Hst lo w hb tb m nbt seed ports lv made tick outv M k) (F : Fz w w' cs) (h1 : ∀ b cur, Bk w b cur 92 → b ∉ cs) (h2 : ∀ b cur, Bk w b cur 128 → b ∉ cs) (h3 : ∀ b cur, Bk w b cur 42 → b ∉ cs) (h4 : m ∉ cs) : Hst lo w' hb tb m nbt seed ports lv made tick outv M k := by
  obtain ⟨d, pv, ps, hB, hP⟩ := h.ex
  exact ⟨⟨d, pv, ps, hB.fz F (h1 _ _ hB), hP.fz F h3⟩, h.tab.fz F (h2 _ _ h.tab.bk) h4⟩
set_option maxRecDepth 100000 in
set_option maxHeartbeats 3200000 in
theorem hput_any (c : Nat) (h : Hst lo w hb tb m nbt seed ports lv made tick outv M k) (hs : Sk w lo lv l) (hlo : lo ≤ w.heap.size) (hl : l.length ≤ 1000) :
    Calls Tryz.prog 93 #[.pointer (some ⟨hb, 0, none⟩), .pointer (some ⟨c, 0, none⟩), .int .i64 0] w fun e w' => ∃ sk lv', e = .returned (.pointer (some ⟨sk, 0, none⟩)) ∧ w.heap.size ≤ sk ∧
      Hst lo w' hb tb m nbt seed ports lv' made tick outv M k ∧ Sk w' lo lv' (l ++ [(sk, c)]) ∧ Fz w w' (hb :: lv.ownBlock.toList) := by
  have NE := h.ne
  obtain ⟨A, cc, rfl, hcc⟩ := own_slice hs.row
  obtain ⟨drawn, pv, ps, hB, hP⟩ := h.ex
  have KB0 := Keep.mk (hB.fz (Fz.drew w 1) (by simp))
  have e5 : w.drew.cell? ⟨hb, 5, none⟩ = some (.int .i64 made) := KB0.out.c 5
  have e7 : w.drew.cell? ⟨hb, 7, none⟩ = some (.int .i64 tick) := KB0.out.c 7
  obtain ⟨W, hW⟩ : ∃ W, (w.alloc (.cells (sockC c made tick) 141)).drew = W := ⟨_, rfl⟩
  have A1 : Fz w W [] := hW ▸ ((Fz.alloc w _).trans (Fz.drew _ 1)).mono (by simp)
  have S1 : Bk W w.heap.size (sockC c made tick) 141 := hW ▸ (Bk.new w _ _).fz (Fz.drew _ 1) (by simp)
  have HB1 := hB.fz A1 (by simp)
  have A2 := A1.trans (Fz.alloc W (.cells #[.pointer (some ⟨w.heap.size, 0, none⟩)] 138))
  have HB2 := hB.fz A2 (by simp)
  have g4 : W.cell? ⟨hb, 4, none⟩ = some (.slice A l.length cc) := HB1.c 4
  have KB1 : Keep (Bk (w.alloc (.cells (sockC c made tick) 141)).drew hb (hostC seed drawn pv ports (.slice A l.length cc) made tb tick outv) 92) := ⟨by rw [hW]; exact HB1⟩
  have KB1W := Keep.mk HB1
  have KA2 : Keep (Fz w (W.alloc (.cells #[.pointer (some ⟨w.heap.size, 0, none⟩)] 138)) []) := ⟨A2.mono (by simp)⟩
  have KS1 := Keep.mk S1
  have H2 := Keep.mk (h.fz KA2.out (by simp) (by simp) (by simp) (by simp))
  have KB2 := Keep.mk HB2
  have SK2 := Keep.mk (hs.fz KA2.out (by simp) (by simp))
  have SZ : Keep (lo ≤ (W.alloc (.cells #[.pointer (some ⟨w.heap.size, 0, none⟩)] 138)).heap.size ∧ l.length ≤ 1000000 ∧ w.heap.size < W.heap.size) := ⟨Nat.le_trans hlo KA2.out.size, by omega, S1.lt⟩
  have HOB : Keep (∀ kb, (Value.slice A l.length cc).ownBlock = some kb → kb ≠ hb ∧ kb ≠ tb ∧ kb < w.heap.size ∧ (∀ b cur, Bk w b cur 42 → kb ≠ b) ∧ (∀ b cur, Bk w b cur 141 → kb ≠ b) ∧ kb ≠ m) := ⟨fun kb e => by
    obtain ⟨_, cur, hk⟩ := own_ty hs.row e
    exact ⟨hk.ne_ty hB (by decide), hk.ne_ty h.tab.bk (by decide), hk.lt, fun b cur' hb' => hk.ne_ty hb' (by decide), fun b cur' hb' => hk.ne_ty hb' (by decide), NE.2.2 _ _ _ hk⟩⟩
  have KP2 := Keep.mk (hP.fz KA2.out (by simp))
  have KS2 := Keep.mk (S1.fz (Fz.alloc W (.cells #[.pointer (some ⟨w.heap.size, 0, none⟩)] 138)) (by simp))
  clear h hs hlo hl NE hB hP HB1 A1 A2 S1 HB2 hcc
  go_enter Tryz.func93, Tryz.ntmps93
  go_wp2_with fail
  go_region_held3 (fun X => X.cell? ⟨hb, 5, none⟩ = some (.int .i64 made) ∧ X.cell? ⟨hb, 7, none⟩ = some (.int .i64 tick))
    (first | exact ⟨KB0.out.c 5, KB0.out.c 7⟩ | exact ⟨KB1.out.c 5, KB1.out.c 7⟩ | exact ⟨KB1W.out.c 5, KB1W.out.c 7⟩)
    (fail)
  try rw [hW]
  go_wp2_with (first
    | (refine append_more rfl (.tmp 26) (.tmp 28) 89 138 rfl Tryz.underlying89 infoSock rfl (by omega) (by omega) (.slice A l.length cc) rfl W.heap.size [.pointer (some ⟨w.heap.size, 0, none⟩)] rfl rfl (fun j u hu => ((Bk.new W #[.pointer (some ⟨w.heap.size, 0, none⟩)] 138).c j).trans (by simpa using hu)) (by simp) (by simp [Value.oneCell']) lo l.length _ SK2.out.row SZ.out.1 SZ.out.2.1 ?_
       intro v' w3 ho3 hg3 hv3
       have B3 := Fz.grown hg3
       obtain ⟨A3, k3, rfl, _⟩ := own_slice ho3
       have KB3 := KB2.out.fz B3 (by simp; exact fun e => (HOB.out _ e).1 rfl)
       have f3 := KB3.free 4
       have d3 : w3.cell? ⟨hb, 4, none⟩ = some (.slice A l.length cc) := KB3.c 4
       have OW3 := Keep.mk ho3
       have X3 := Keep.mk B3
       have KK3 := Keep.mk KB3
       clear ho3 hg3 hv3 B3 KB3)
    | fail)
  have NIN : ∀ {b : Nat} {arr : Array Value} {ty : TypeId}, Bk (W.alloc (.cells #[.pointer (some ⟨w.heap.size, 0, none⟩)] 138)) b arr ty → 138 ≠ ty → b ∉ (Value.slice A l.length cc).ownBlock.toList := fun hb' hty hm => by
    obtain ⟨_, cur, hk⟩ := own_ty SK2.out.row (by simpa using hm)
    exact hk.ne_ty hb' hty rfl
  have T := Fz.set w3 hb 4 (.slice A3 (l.length + 1) k3)
  have NHB : ∀ {b : Nat} {arr : Array Value} {ty : TypeId}, Bk w3 b arr ty → ty ≠ 92 → b ∉ [hb] := fun hb' hty => by simp; exact hb'.ne_ty KK3.out hty
  have XF : Fz w (w3.setCell ⟨hb, 4, none⟩ (.slice A3 (l.length + 1) k3)) (hb :: (Value.slice A l.length cc).ownBlock.toList) := ((KA2.out.trans X3.out).trans T).mono (fun x _ hx => by
    simp only [List.mem_append, List.mem_cons, List.not_mem_nil, or_false] at hx ⊢
    rcases hx with (hx | hx) | hx
    · cases hx
    · exact .inr hx
    · exact .inl hx)
  have T2 := H2.out.tab.fz X3.out (NIN H2.out.tab.bk (by decide)) (fun hm => by
    obtain ⟨_, cur, hk⟩ := own_ty SK2.out.row (by simpa using hm)
    exact H2.out.ne.2.2 _ _ _ hk rfl)
  have P2 := KP2.out.fz X3.out (fun b cur hb' => NIN hb' (by decide))
  go_ret
  refine ⟨w.heap.size, _, rfl, Nat.le_refl _, ⟨⟨drawn, pv, ps, KK3.out.set 4 _, P2.fz T (fun b cur hb' => NHB hb' (by decide))⟩, T2.fz T (NHB T2.bk (by decide)) (by simp; exact fun e => H2.out.ne.2.1 e.symm)⟩, ⟨?_, fun x hx => ?_⟩, XF⟩
  · have hr := own_blockW OW3.out (w' := w3.setCell ⟨hb, 4, none⟩ (.slice A3 (l.length + 1) k3)) (fun kb e => T.block kb (let ⟨_, _, h2⟩ := own_ty OW3.out e; h2.lt) (let ⟨_, _, h2⟩ := own_ty OW3.out e; NHB h2 (by decide)))
    rw [List.length_append, List.flatMap_append]
    simpa [skC] using hr
  · rcases List.mem_append.1 hx with h1 | h1
    · obtain ⟨hd, sn, hk⟩ := SK2.out.sk x h1
      have h3 := hk.fz X3.out (NIN hk (by decide))
      exact ⟨hd, sn, h3.fz T (NHB h3 (by decide))⟩
    · obtain rfl : x = (w.heap.size, c) := by simpa using h1
      have h3 := KS2.out.fz X3.out (NIN KS2.out (by decide))
      exact ⟨made, tick, h3.fz T (NHB h3 (by decide))⟩
end
end Go.Proofs.YtjpokeakemlffaaGreatDoor
/-
  Sums of bytes.
-/
namespace Go.Proofs.YtjpokeakemlffaaGreatDoor
open Go.RowKit
def addS (s : Int × Bool) (c : Int) : Int × Bool := ((s.1 + if s.2 then c else c * 256) % 65536 + (s.1 + if s.2 then c else c * 256) / 65536, !s.2)
def sumS (s : Int × Bool) (l : List Int) : Int × Bool := l.foldl addS s
def endS (n : Int) : Int := 65535 - if n < 65536 then n else n - 65535
theorem addS_bd {s : Int × Bool} {c : Int} (h0 : 0 ≤ s.1) (h1 : s.1 ≤ 131070) (c0 : 0 ≤ c) (c1 : c ≤ 255) : 0 ≤ (addS s c).1 ∧ (addS s c).1 ≤ 131070 := by
  unfold addS
  obtain ⟨n, o⟩ := s
  cases o <;> simp at * <;> omega
theorem sumS_bd : ∀ (l : List Int) (s : Int × Bool), 0 ≤ s.1 → s.1 ≤ 131070 → (∀ z ∈ l, 0 ≤ z ∧ z ≤ 255) → 0 ≤ (sumS s l).1 ∧ (sumS s l).1 ≤ 131070
  | [], s, h0, h1, _ => ⟨h0, h1⟩
  | c :: r, s, h0, h1, h => by
    have h2 := addS_bd h0 h1 (h c (by simp)).1 (h c (by simp)).2
    exact sumS_bd r (addS s c) h2.1 h2.2 (fun z hz => h z (by simp [hz]))
theorem sumS_snoc (s : Int × Bool) (l : List Int) (c : Int) : sumS s (l ++ [c]) = addS (sumS s l) c := by simp [sumS]
theorem wraps_u32' (n : Int) (h₀ : 0 ≤ n) (h₁ : n < 2 ^ 32) : IntKind.u32.wrap n = n := by rw [IntKind.wrap_u32]; omega
theorem and16 {x : Int} (h0 : 0 ≤ x) (h1 : x < 4294967296) : bits .and .u32 x 65535 = x % 65536 := bits_mask .u32 32 (by decide) wraps_u32' 16 (by decide) x h0 (by omega)
theorem xor16 {y : Int} (h0 : 0 ≤ y) (h1 : y < 65536) : bits .xor .u16 IntKind.u16.max y = 65535 - y := by
  obtain ⟨y, rfl⟩ := Int.eq_ofNat_of_zero_le h0
  have hm : IntKind.u16.max = ((65535 : Nat) : Int) := by decide
  rw [hm]
  simp only [bits, BitVec.ofInt_natCast]
  change IntKind.u16.wrap (((BitVec.ofNat 16 65535 ^^^ BitVec.ofNat 16 y).toNat : Nat) : Int) = _
  have ha : BitVec.ofNat 16 65535 = BitVec.allOnes 16 := by decide
  rw [ha, BitVec.allOnes_xor, BitVec.toNat_not]
  have hy : (BitVec.ofNat 16 y).toNat = y := by
    show y % 2 ^ 16 = y
    omega
  rw [hy, IntKind.wrap_u16]
  omega
abbrev adC (n : Int) (o : Bool) : Array Value := #[.int .u32 n, .bool o]
set_option maxRecDepth 100000 in
set_option maxHeartbeats 3200000 in
theorem sadd_any (g : Nat) (n : Int) (o : Bool) (A : Option Addr) (len c : Nat) (l : List Int) (w : World) (h : Bk w g (adC n o) 308) (ha : Arg w 1 encB A len c l) (hb : ∀ z ∈ l, 0 ≤ z ∧ z ≤ 255) (hA : l ≠ [] → ∀ b off, A = some ⟨b, off, none⟩ → b ≠ g) (hl : len ≤ 1000000) (n0 : 0 ≤ n) (n1 : n ≤ 131070) :
    Calls Tryz.prog 233 #[.pointer (some ⟨g, 0, none⟩), .slice A len c] w fun e w' => e = .returned (.tuple #[]) ∧ Bk w' g (adC (sumS (n, o) l).1 (sumS (n, o) l).2) 308 ∧ Fz w w' [g] := by
  have HA := Keep.mk ha
  have HB := Lib.hid hb
  have HN := Lib.hid hA
  have HG := Keep.mk h
  have HZ : Keep (0 ≤ n ∧ n ≤ 131070) := ⟨n0, n1⟩
  clear ha hb hA h n0 n1
  go_enter Tryz.func233, Tryz.ntmps233
  go_wp2_with fail
  go_loopw [8] (fun i wr => ∃ j : Nat, j ≤ len ∧ i = .int .i64 j ∧ Keep (Bk wr g (adC (sumS (n, o) (l.take j)).1 (sumS (n, o) (l.take j)).2) 308 ∧ Fz w wr [g])) (fun i _ => len - (intOf i).toNat)
  case atStart => exact ⟨0, by omega, rfl, ⟨by simpa [sumS] using HG.out, (Fz.refl w).mono (by simp)⟩⟩
  case round =>
    obtain ⟨j, hj, rfl, HQ⟩ := hrel
    rcases Nat.lt_or_ge j len with hlt | hge
    · have hll := HA.out.hlen
      obtain ⟨b, off, rfl, hbl, hcs⟩ := HA.out.rd.byte (List.ne_nil_of_length_pos (by omega))
      obtain ⟨x, hx⟩ : ∃ x, l[j]'(by omega) = x := ⟨_, rfl⟩
      have hbg := HN.out (List.ne_nil_of_length_pos (by omega)) b off rfl
      have hxj : l[j]? = some x := by rw [List.getElem?_eq_getElem (by omega), hx]
      have hxb := HB.out x (List.mem_of_getElem? hxj)
      have r0 : wr.cell? ⟨b, off + j, none⟩ = some (.int .u8 x) := (World.cell?_of_block (HQ.out.2.block b hbl (by simp; exact hbg))).trans ((hcs j (by omega)).trans (by rw [hx]))
      have hs := sumS_bd (l.take j) (n, o) HZ.out.1 HZ.out.2 (fun z hz => HB.out z (List.mem_of_mem_take hz))
      have hsn : sumS (n, o) (l.take (j + 1)) = addS (sumS (n, o) (l.take j)) x := by rw [List.take_add_one, hxj]; exact sumS_snoc _ _ _
      have HSN := Keep.mk hsn
      obtain ⟨m, od, hm⟩ : ∃ m od, sumS (n, o) (l.take j) = (m, od) := ⟨_, _, rfl⟩
      have HM := Keep.mk hm
      have HQB : Keep (Bk wr g (adC m od) 308) := ⟨by have := HQ.out.1; rw [hm] at this; exact this⟩
      rw [hm] at hs
      simp only at hs
      obtain ⟨m0, m1⟩ := hs
      obtain ⟨x0, x1⟩ := hxb
      have g0 : wr.cell? ⟨g, 0, none⟩ = some (.int .u32 m) := HQB.out.c 0
      have g1 : wr.cell? ⟨g, 1, none⟩ = some (.bool od) := HQB.out.c 1
      have f0 := HQB.out.free 0
      have f1 := HQB.out.free 1
      have hlti : ((j : Nat) : Int) < (len : Int) := by omega
      clear hll hcs hx hxj hm hsn
      cases od with
      | true =>
        obtain ⟨y, hy⟩ : ∃ y, m + x = y := ⟨_, rfl⟩
        have q1 : IntKind.u32.wrap (m + x) = y := by rw [IntKind.wrap_u32]; omega
        have y0 : 0 ≤ y := by omega
        have y1 : y < 4294967296 := by omega
        have a1 := and16 y0 y1
        have a2 : IntKind.u32.wrap (y % 65536 + y / 65536) = y % 65536 + y / 65536 := by rw [IntKind.wrap_u32]; omega
        obtain ⟨W2, hW2⟩ : ∃ W2, (wr.setCell ⟨g, 0, none⟩ (.int .u32 y)).setCell ⟨g, 1, none⟩ (.bool false) = W2 := ⟨_, rfl⟩
        have B2 : Bk W2 g (adC y false) 308 := hW2 ▸ (HQB.out.set 0 (.int .u32 y)).set 1 (.bool false)
        have F2 : Fz wr W2 [g] := hW2 ▸ ((Fz.set wr g 0 (.int .u32 y)).trans (Fz.set _ g 1 (.bool false))).mono (by simp)
        have B3 := B2.fz (Fz.drew W2 1) (by simp)
        have k0 : W2.cell? ⟨g, 0, none⟩ = some (.int .u32 y) := B2.c 0
        have k1 : W2.drew.cell? ⟨g, 0, none⟩ = some (.int .u32 y) := B3.c 0
        have f2 : W2.frozen? ⟨g, 0, none⟩ = false := B2.free 0
        have f3 : W2.drew.frozen? ⟨g, 0, none⟩ = false := B3.free 0
        have KB2 := Keep.mk B3
        have KF2 := Keep.mk F2
        have KY := Keep.mk hy
        clear hy B2 B3 F2
        go_wp2_with fail
        try rw [hW2]
        clear hW2
        go_still_tail 12, (by kernel_rfl)
        change wpList _ _ _ _ _ W2.drew
        clear k0 f2
        go_wp2_with fail
        go_roundw
        case rel =>
          refine ⟨j + 1, by omega, by go_num, ⟨?_, ((HQ.out.2.trans KF2.out).trans ((Fz.drew W2 1).trans (Fz.set W2.drew g 0 _))).mono (by simp)⟩⟩
          rw [HSN.out, HM.out]
          have h := KB2.out.set 0 (.int .u32 (y % 65536 + y / 65536))
          simp only [addS, KY.out, if_true, if_false, Bool.false_eq_true, Bool.not_true, Bool.not_false]
          exact h
        case measure => simp [intOf] <;> omega
      | false =>
        obtain ⟨y, hy⟩ : ∃ y, m + x * 256 = y := ⟨_, rfl⟩
        have q1 : IntKind.u32.wrap (m + x * 256) = y := by rw [IntKind.wrap_u32]; omega
        have y0 : 0 ≤ y := by omega
        have y1 : y < 4294967296 := by omega
        have a1 := and16 y0 y1
        have a2 : IntKind.u32.wrap (y % 65536 + y / 65536) = y % 65536 + y / 65536 := by rw [IntKind.wrap_u32]; omega
        obtain ⟨W2, hW2⟩ : ∃ W2, (wr.setCell ⟨g, 0, none⟩ (.int .u32 y)).setCell ⟨g, 1, none⟩ (.bool true) = W2 := ⟨_, rfl⟩
        have B2 : Bk W2 g (adC y true) 308 := hW2 ▸ (HQB.out.set 0 (.int .u32 y)).set 1 (.bool true)
        have F2 : Fz wr W2 [g] := hW2 ▸ ((Fz.set wr g 0 (.int .u32 y)).trans (Fz.set _ g 1 (.bool true))).mono (by simp)
        have B3 := B2.fz (Fz.drew W2 1) (by simp)
        have k0 : W2.cell? ⟨g, 0, none⟩ = some (.int .u32 y) := B2.c 0
        have k1 : W2.drew.cell? ⟨g, 0, none⟩ = some (.int .u32 y) := B3.c 0
        have f2 : W2.frozen? ⟨g, 0, none⟩ = false := B2.free 0
        have f3 : W2.drew.frozen? ⟨g, 0, none⟩ = false := B3.free 0
        have KB2 := Keep.mk B3
        have KF2 := Keep.mk F2
        have KY := Keep.mk hy
        clear hy B2 B3 F2
        go_wp2_with fail
        try rw [hW2]
        clear hW2
        go_still_tail 12, (by kernel_rfl)
        change wpList _ _ _ _ _ W2.drew
        clear k0 f2
        go_wp2_with fail
        go_roundw
        case rel =>
          refine ⟨j + 1, by omega, by go_num, ⟨?_, ((HQ.out.2.trans KF2.out).trans ((Fz.drew W2 1).trans (Fz.set W2.drew g 0 _))).mono (by simp)⟩⟩
          rw [HSN.out, HM.out]
          have h := KB2.out.set 0 (.int .u32 (y % 65536 + y / 65536))
          simp only [addS, KY.out, if_true, if_false, Bool.false_eq_true, Bool.not_true, Bool.not_false]
          exact h
        case measure => simp [intOf] <;> omega
    · obtain rfl : j = len := by omega
      go_wp2_with fail
      go_end0
      have := HQ.out.1
      rw [List.take_of_length_le (by have := HA.out.hlen; omega)] at this
      exact ⟨rfl, this, HQ.out.2⟩
set_option maxRecDepth 100000 in
set_option maxHeartbeats 1600000 in
theorem send_any (g : Nat) (n : Int) (o : Bool) (w : World) (h : Bk w g (adC n o) 308) (n0 : 0 ≤ n) (n1 : n ≤ 131070) :
    Calls Tryz.prog 234 #[.pointer (some ⟨g, 0, none⟩)] w fun e w' => e = .returned (.int .u16 (endS n)) ∧ w' = w := by
  have g0 : w.cell? ⟨g, 0, none⟩ = some (.int .u32 n) := h.c 0
  have HN : Keep (0 ≤ n ∧ n ≤ 131070) := ⟨n0, n1⟩
  clear h n0 n1
  go_enter Tryz.func234, Tryz.ntmps234
  go_wp2_with fail
  go_loopw [3] (fun v wr => wr = w ∧ ∃ y : Int, v = .int .u32 y ∧ Keep (y = n ∨ (65536 ≤ n ∧ y = n - 65535))) (fun v _ => (intOf v).toNat)
  case atStart => exact ⟨rfl, n, rfl, ⟨.inl rfl⟩⟩
  case round =>
    obtain ⟨rfl, y, rfl, HY⟩ := hrel
    have hn := HN.out
    have hy : 0 ≤ y ∧ y ≤ 131070 := by rcases HY.out with h | h <;> omega
    obtain ⟨y0, y1⟩ := hy
    have a1 := and16 y0 (by omega)
    have a2 : IntKind.u32.wrap (y % 65536 + y / 65536) = y % 65536 + y / 65536 := by rw [IntKind.wrap_u32]; omega
    rcases Int.lt_or_le y 65536 with hlt | hge
    · have hd : y / 65536 = 0 := by omega
      have hx := xor16 y0 hlt
      go_wp2_with fail
      go_ret
      have hE : 65535 - y = endS n := by
        unfold endS
        rcases HY.out with h | h
        · rw [← h, if_pos hlt]
        · rw [if_neg (by omega), h.2]
      exact ⟨by rw [← hE]; rfl, rfl⟩
    · have hd : (y / 65536 == 0) = false := by simp; omega
      clear hn
      go_wp2_with fail
      go_roundw
      case rel => exact ⟨by first | trivial | rfl, _, rfl, ⟨.inr (by have := HY.out; have := HN.out; omega)⟩⟩
      case measure => simp [intOf] <;> omega
set_option maxRecDepth 100000 in
set_option maxHeartbeats 1600000 in
theorem sof_one (g : Nat) (A : Option Addr) (n c : Nat) (l : List Int) (w : World) (hg : w.cell? ⟨g, 0, none⟩ = some (.slice A n c)) (ha : Arg w 1 encB A n c l) (hb : ∀ z ∈ l, 0 ≤ z ∧ z ≤ 255) (hl : n ≤ 1000000) :
    Calls Tryz.prog 175 #[.slice (some ⟨g, 0, none⟩) 1 1] w fun e w' => e = .returned (.int .u16 (endS (sumS (0, false) l).1)) ∧ Below w.heap.size w w' := by
  have HA := Keep.mk ha
  have HBB := Lib.hid hb
  have X0 := Fz.alloc w (.cells (adC 0 false) 308)
  have N0 := Bk.new w (adC 0 false) 308
  have hgl := World.block_lt_of_cell? _ _ hg
  simp only at hgl
  have HO : l ≠ [] → ∀ b off, A = some ⟨b, off, none⟩ → b ≠ w.heap.size := fun hln b off e => by
    subst e
    obtain ⟨b', off', e, hlt, _⟩ := ha.rd hln
    cases e
    omega
  have AD := Keep.mk (sadd_any w.heap.size 0 false A n c l (w.alloc (.cells (adC 0 false) 308)) N0 (ha.alloc _) hb HO hl (by omega) (by omega))
  have KX0 := Keep.mk X0
  have SB := Keep.mk (sumS_bd l (0, false) (by decide) (by decide) hb)
  have d0 : (w.alloc (.cells (adC 0 false) 308)).cell? ⟨g, 0, none⟩ = some (.slice A n c) := (World.cell?_alloc_lt _ _ _ hgl).trans hg
  clear ha hb X0 N0 HO
  go_enter Tryz.func175, Tryz.ntmps175
  go_wp2_with fail
  go_loopw [8] (fun i wr => (i = .int .i64 0 ∧ wr = w.alloc (.cells (adC 0 false) 308)) ∨ (i = .int .i64 1 ∧ Keep (Bk wr w.heap.size (adC (sumS (0, false) l).1 (sumS (0, false) l).2) 308 ∧ Fz (w.alloc (.cells (adC 0 false) 308)) wr [w.heap.size]))) (fun i _ => 1 - (intOf i).toNat)
  case atStart => exact .inl ⟨rfl, rfl⟩
  case round =>
    rcases hrel with ⟨rfl, rfl⟩ | ⟨rfl, HQ⟩
    · go_wp2_with (first
        | (go_at_call 233
           go_loud (refine AD.out.mono ?_; rintro e w1 ⟨rfl, b1, f1⟩)
           have K1 := Keep.mk (And.intro b1 f1)
           clear b1 f1)
        | fail)
      go_roundw
      case rel => exact .inr ⟨rfl, K1⟩
      case measure => simp [intOf]
    · have EN := Keep.mk (send_any w.heap.size _ _ wr HQ.out.1 SB.out.1 SB.out.2)
      go_wp2_with (first
        | (go_at_call 234
           go_loud (refine EN.out.mono ?_; rintro e X ⟨rfl, hX⟩)
           rw [hX]
           clear hX)
        | fail)
      go_ret
      exact ⟨rfl, (KX0.out.trans HQ.out.2).toBelow (Nat.le_refl _) (by simp)⟩
theorem endS_bd {n : Int} (h0 : 0 ≤ n) (h1 : n ≤ 131070) : 0 ≤ endS n ∧ endS n ≤ 65535 := by unfold endS; split <;> omega
def sumB (l : List Int) : List Int := (if l.length % 2 = 0 then l else l ++ [0]) ++ beB (endS (sumS (0, false) (if l.length % 2 = 0 then l else l ++ [0])).1) 2
theorem infoB1 : (Tryz.prog.info? 5).map (fun i => (i.zero, i.size, i.bytes)) = some (some (.int .u8 0), 1, 1) := by kernel_rfl
set_option maxRecDepth 100000 in
set_option maxHeartbeats 3200000 in
theorem sput_any (A : Option Addr) (n c : Nat) (l : List Int) (w : World) (ha : Arg w 1 encB A n c l) (hb : ∀ z ∈ l, 0 ≤ z ∧ z ≤ 255) (hl : n ≤ 100000) :
    Calls Tryz.prog 172 #[.slice A n c] w fun e w' => ∃ (g m : Nat), e = .returned (.slice (some ⟨g, 0, none⟩) m m) ∧ m = (sumB l).length ∧ w.heap.size ≤ g ∧ w'.heap[g]? = some (.cells (bArr (sumB l)) 5 (0, 0)) ∧ Below w.heap.size w w' := by
  have hlen := ha.hlen
  have X0 := Fz.alloc w (.cells #[.slice A n c] 24)
  have d0 : (w.alloc (.cells #[.slice A n c] 24)).cell? ⟨w.heap.size, 0, none⟩ = some (.slice A n c) := (Bk.new w #[.slice A n c] 24).c 0
  have JN := Keep.mk (join_any _ 1 1 [⟨A, n, c, l⟩] _ (Arg.one l d0) (PcsOk.one (ha.alloc (.cells #[.slice A n c] 24))) (by decide) (by simp [glue]; omega))
  have HBB := Lib.hid hb
  have HL : Keep (l.length = n ∧ n ≤ 100000) := ⟨hlen, hl⟩
  have hgl : glue [⟨A, n, c, l⟩] = l := by simp [glue]
  rw [hgl, hlen] at JN
  have KX0 := Keep.mk X0
  clear ha hb X0 hlen d0 hgl hl
  obtain ⟨L, hL⟩ : ∃ L, (if l.length % 2 = 0 then l else l ++ [0]) = L := ⟨_, rfl⟩
  have HLL := Keep.mk hL
  have HLB : Hid (∀ z ∈ L, 0 ≤ z ∧ z ≤ 255) := by
    show ∀ z ∈ L, _
    intro z hz
    rw [← hL] at hz
    split at hz
    · exact HBB.out z hz
    · rcases List.mem_append.1 hz with h | h
      · exact HBB.out z h
      · obtain rfl : z = 0 := by simpa using h
        omega
  have HLN : Keep (L.length ≤ 100001) := ⟨by rw [← hL]; have := HL.out; split <;> (try simp only [List.length_append, List.length_cons, List.length_nil]) <;> omega⟩
  clear hL
  by_cases hev : n % 2 = 0
  · have hp : ((n : Int) % 2 != 0) = false := by
      have : (n : Int) % 2 = 0 := by omega
      rw [this]; rfl
    have EB : Keep (0 ≤ endS (sumS (0, false) l).1 ∧ endS (sumS (0, false) l).1 ≤ 65535) := ⟨endS_bd (sumS_bd l (0, false) (by decide) (by decide) HBB.out).1 (sumS_bd l (0, false) (by decide) (by decide) HBB.out).2⟩
    have q1 : IntKind.u64.wrap (endS (sumS (0, false) l).1) = endS (sumS (0, false) l).1 := by rw [IntKind.wrap_u64]; have := EB.out; omega
    have hn : n ≤ 100000 := HL.out.2
    have HE : Keep (sumB l = l ++ beB (endS (sumS (0, false) l).1) 2) := ⟨by unfold sumB; rw [if_pos (by rw [HL.out.1]; exact hev)]⟩
    clear hev
    go_enter Tryz.func172, Tryz.ntmps172
    go_wp2_with (first
      | (go_at_call 173
         go_loud (refine JN.out.mono ?_; rintro e w1 ⟨A1, c1, rfl, a1, _, b1⟩)
         have KA1 := Keep.mk a1
         have KF1 : Keep (Fz w w1 []) := ⟨(KX0.out.trans (Fz.below b1 (Nat.le_refl _))).mono (by simp)⟩
         have SO := Keep.mk (sof_one w1.heap.size A1 n c1 l (w1.alloc (.cells #[.slice A1 n c1] 24)) ((Bk.new w1 #[.slice A1 n c1] 24).c 0) (KA1.out.alloc _) HBB.out (by omega))
         clear a1 b1)
      | (go_at_call 175
         go_loud (refine SO.out.mono ?_; rintro e w3 ⟨rfl, b3⟩)
         have F3 := (Fz.alloc w1 (.cells #[.slice A1 n c1] 24)).trans (Fz.below b3 (Nat.le_refl _))
         have KA3 := Keep.mk ((KA1.out.alloc (.cells #[.slice A1 n c1] 24)).below b3)
         have KF3 : Keep (Fz w1 w3 []) := ⟨F3.mono (by simp)⟩
         have PB := Keep.mk (put8_any A1 n c1 2 (endS (sumS (0, false) l).1) l w3 KA3.out (by omega) (by omega) (by omega) (by have := EB.out; omega) (by have := EB.out; omega))
         clear b3 F3 SO)
      | (go_at_call 170
         go_loud (refine PB.out.mono ?_; rintro e w4 ⟨rfl, h4, b4⟩)
         have K4 := Keep.mk (And.intro h4 b4)
         clear h4 b4 PB)
      | fail)
    go_ret
    exact ⟨_, _, rfl, by rw [HE.out, List.length_append, beB_length, HL.out.1], Nat.le_trans KF1.out.size KF3.out.size, by rw [HE.out]; exact K4.out.1, ((KF1.out.trans KF3.out).toBelow (Nat.le_refl _) (by simp)).trans (K4.out.2.mono (Nat.le_trans KF1.out.size KF3.out.size))⟩
  · have hp : ((n : Int) % 2 != 0) = true := by
      have : (n : Int) % 2 = 1 := by omega
      rw [this]; rfl
    have EB : Keep (0 ≤ endS (sumS (0, false) (l ++ [0])).1 ∧ endS (sumS (0, false) (l ++ [0])).1 ≤ 65535) := ⟨endS_bd (sumS_bd (l ++ [0]) (0, false) (by decide) (by decide) (fun z hz => by
      rcases List.mem_append.1 hz with h | h
      · exact HBB.out z h
      · obtain rfl : z = 0 := by simpa using h
        omega)).1 (sumS_bd (l ++ [0]) (0, false) (by decide) (by decide) (fun z hz => by
      rcases List.mem_append.1 hz with h | h
      · exact HBB.out z h
      · obtain rfl : z = 0 := by simpa using h
        omega)).2⟩
    have HB0 : Hid (∀ z ∈ l ++ [0], 0 ≤ z ∧ z ≤ 255) := by
      show ∀ z ∈ l ++ [0], _
      intro z hz
      rcases List.mem_append.1 hz with h | h
      · exact HBB.out z h
      · obtain rfl : z = 0 := by simpa using h
        omega
    have q1 : IntKind.u64.wrap (endS (sumS (0, false) (l ++ [0])).1) = endS (sumS (0, false) (l ++ [0])).1 := by rw [IntKind.wrap_u64]; have := EB.out; omega
    have hn : n ≤ 100000 := HL.out.2
    have HE : Keep (sumB l = (l ++ [0]) ++ beB (endS (sumS (0, false) (l ++ [0])).1) 2) := ⟨by unfold sumB; rw [if_neg (by rw [HL.out.1]; exact hev)]⟩
    clear hev
    go_enter Tryz.func172, Tryz.ntmps172
    go_wp2_with (first
      | (go_at_call 173
         go_loud (refine JN.out.mono ?_; rintro e w1 ⟨A1, c1, rfl, a1, o1, b1⟩)
         have KO1 := Keep.mk o1
         have F1 := (KX0.out.trans (Fz.below b1 (Nat.le_refl _)))
         have KF1 : Keep (Fz w w1 []) := ⟨F1.mono (by simp)⟩
         have Z1 := Fz.alloc w1 (.cells #[.int .u8 0] 5)
         have KO2 : Keep ((w1.alloc (.cells #[.int .u8 0] 5)).ownsRow w.heap.size 5 1 (.slice A1 n c1) n (l.flatMap encB)) := ⟨own_low (own_blockW o1 (fun kb e => let ⟨_, _, h2⟩ := own_ty o1 e; Z1.block kb h2.lt (by simp))) (by simp)⟩
         clear a1 b1 o1 F1 Z1)
      | (refine append_more rfl (.tmp 10) (.tmp 11) 24 5 rfl Tryz.underlying24 infoB1 rfl (by omega) (by omega) (.slice A1 n c1) rfl w1.heap.size [.int .u8 0] rfl rfl (fun j u hu => ((Bk.new w1 #[.int .u8 0] 5).c j).trans (by simpa using hu)) (by simp) (by simp [Value.oneCell']) w.heap.size n _ KO2.out (by have := KF1.out.size; simp; omega) (by omega) ?_
         intro v' w2 ho2 hg2 hv2
         have F2 := (Fz.alloc w1 (.cells #[.int .u8 0] 5)).trans (Fz.grown hg2)
         have KF2 : Keep (Below w.heap.size w w2) := ⟨(KF1.out.trans F2).toBelow (Nat.le_refl _) (fun y hy => by
           simp only [List.nil_append] at hy
           exact (own_ty KO2.out (by simpa using hy)).1)⟩
         have hfl : l.flatMap encB ++ [Value.int .u8 0] = (l ++ [0]).flatMap encB := by simp [encB]
         rw [hfl] at ho2
         obtain ⟨A2, c2, rfl, a2⟩ := Arg.of_own (by decide) encB_length ho2
         have KA2 := Keep.mk a2
         have SO := Keep.mk (sof_one w2.heap.size A2 (n + 1) c2 (l ++ [0]) (w2.alloc (.cells #[.slice A2 (n + 1) c2] 24)) ((Bk.new w2 #[.slice A2 (n + 1) c2] 24).c 0) (KA2.out.alloc _) HB0.out (by omega))
         clear ho2 hg2 hv2 F2 hfl a2)
      | (go_at_call 175
         go_loud (refine SO.out.mono ?_; rintro e w3 ⟨rfl, b3⟩)
         have F3 := (Fz.alloc w2 (.cells #[.slice A2 (n + 1) c2] 24)).trans (Fz.below b3 (Nat.le_refl _))
         have KA3 := Keep.mk ((KA2.out.alloc (.cells #[.slice A2 (n + 1) c2] 24)).below b3)
         have KF3 : Keep (Fz w2 w3 []) := ⟨F3.mono (by simp)⟩
         have PB := Keep.mk (put8_any A2 (n + 1) c2 2 (endS (sumS (0, false) (l ++ [0])).1) (l ++ [0]) w3 KA3.out (by omega) (by omega) (by omega) (by have := EB.out; omega) (by have := EB.out; omega))
         clear b3 F3 SO)
      | (go_at_call 170
         go_loud (refine PB.out.mono ?_; rintro e w4 ⟨rfl, h4, b4⟩)
         have K4 := Keep.mk (And.intro h4 b4)
         clear h4 b4 PB)
      | fail)
    go_ret
    exact ⟨_, _, rfl, by rw [HE.out, List.length_append, List.length_append, beB_length, HL.out.1]; rfl, Nat.le_trans KF2.out.size KF3.out.size, by rw [HE.out]; exact K4.out.1, (KF2.out.trans (KF3.out.toBelow KF2.out.size (by simp))).trans (K4.out.2.mono (Nat.le_trans KF2.out.size KF3.out.size))⟩
end Go.Proofs.YtjpokeakemlffaaGreatDoor
/-
  A host: no handle is gone; what anything leads to.
-/
namespace Go.Proofs.YtjpokeakemlffaaGreatDoor
open Go.RowKit
set_option maxRecDepth 100000 in
theorem hgone_no (s c : Nat) (hd sn : Int) (w : World) (h : Bk w s (sockC c hd sn) 141) :
    Calls Tryz.prog 141 #[.pointer (some ⟨s, 0, none⟩)] w fun e w' => e = .returned (.bool false) ∧ w' = w := by
  have c6 : w.cell? ⟨s, 6, none⟩ = some (.bool false) := h.c 6
  clear h
  go_enter Tryz.func141, Tryz.ntmps141
  go_wp2_with fail
  go_ret
  exact ⟨by first | rfl | simp, rfl⟩
section
variable {lo : Nat} {w : World} {lv : Value} {l : List (Nat × Nat)}
theorem Sk.at (hs : Sk w lo lv l) {i : Nat} {s c : Nat} (h : l[i]? = some (s, c)) : ∃ g cc, lv = .slice (some ⟨g, 0, none⟩) l.length cc ∧ w.cell? ⟨g, i, none⟩ = some (.pointer (some ⟨s, 0, none⟩)) ∧ ∃ hd sn, Bk w s (sockC c hd sn) 141 := by
  obtain ⟨A, cc, rfl, hcc⟩ := own_slice hs.row
  have hr := hs.row
  rcases hs.row.2 with ⟨e, e2⟩ | ⟨g, cap, cur, e, hb, hg, hnc, hcm, hcs, htake⟩
  · have : i < l.length := (List.getElem?_eq_some_iff.1 h).1
    omega
  · cases e
    refine ⟨g, cc, rfl, ?_, hs.sk _ (List.mem_of_getElem? h)⟩
    have hi : i < l.length := (List.getElem?_eq_some_iff.1 h).1
    rw [cell_of_row w g i cur _ (0, 0) hg, ← Array.getElem?_toList]
    have hf := flat_at (enc := skC) skC_length l i (s, c) h 0 _ rfl
    rw [← htake, List.getElem?_take_of_lt (by omega)] at hf
    simpa using hf
set_option maxRecDepth 100000 in
theorem hix_none (hs : Sk w lo lv l) (hl : l.length ≤ 1000) :
    Calls Tryz.prog 121 #[lv, .func (.func 141) #[] #[]] w fun e w' => e = .returned (.int .i64 (-1)) ∧ w' = w := by
  obtain ⟨A, cc, rfl, hcc⟩ := own_slice hs.row
  have HS := Keep.mk hs
  clear hs hcc
  go_enter Tryz.func121, Tryz.ntmps121
  go_wp2_with fail
  go_loopw [5, 8] (fun _ i wr => ∃ k : Nat, k ≤ l.length ∧ i = .int .i64 k ∧ wr = w) (fun _ i _ => l.length - (intOf i).toNat)
  case atStart => exact ⟨0, by omega, rfl, rfl⟩
  case round =>
    obtain ⟨k, hk, rfl, rfl⟩ := hrel
    rcases Nat.lt_or_ge k l.length with hlt | hge
    · obtain ⟨⟨s, c⟩, hd⟩ : ∃ d, l[k] = d := ⟨_, rfl⟩
      have hlk : l[k]? = some (s, c) := by rw [List.getElem?_eq_getElem hlt, hd]
      obtain ⟨g, c2, e, h0, hd', sn, hb⟩ := HS.out.at hlk
      cases e
      have GN := Keep.mk (hgone_no s c hd' sn wr hb)
      have hlti : ((k : Nat) : Int) < (l.length : Int) := by omega
      clear hlk hd hb
      go_wp2_with (first
        | (go_at_call 141
           go_loud (refine GN.out.mono ?_; rintro e X ⟨rfl, hX⟩)
           rw [hX]
           clear hX)
        | fail)
      go_roundw
      case rel => exact ⟨k + 1, by omega, by go_num, by first | rfl | trivial⟩
      case measure => simp [intOf] <;> omega
    · obtain rfl : k = l.length := by omega
      go_wp2_with fail
      go_ret
      exact ⟨rfl, rfl⟩
set_option maxRecDepth 100000 in
theorem hdel_none (hs : Sk w lo lv l) (hl : l.length ≤ 1000) :
    Calls Tryz.prog 140 #[lv, .func (.func 141) #[] #[]] w fun e w' => e = .returned lv ∧ w' = w := by
  have IX := Keep.mk (hix_none hs hl)
  obtain ⟨A, cc, rfl, hcc⟩ := own_slice hs.row
  clear hs hcc
  go_enter Tryz.func140, Tryz.ntmps140
  go_wp2_with (first
    | (go_at_call 121
       go_loud (refine IX.out.mono ?_; rintro e X ⟨rfl, hX⟩)
       rw [hX]
       clear hX)
    | fail)
  go_ret
  exact ⟨rfl, rfl⟩
end
end Go.Proofs.YtjpokeakemlffaaGreatDoor
/-
  A host: what anything leads to, as long as no connection is over.
-/
namespace Go.Proofs.YtjpokeakemlffaaGreatDoor
open Go.RowKit
abbrev SegR := {r : List Value // r.length = 13 ∧ ∀ u ∈ r, u.oneCell' = true}
set_option maxRecDepth 100000 in
theorem cout_arr {w : World} {c : Nat} {arr : Array Value} (h : Bk w c arr 191) (A : Option Addr) (n cc : Nat) (h29 : arr[29]? = some (.slice A n cc)) :
    Calls Tryz.prog 136 #[.pointer (some ⟨c, 0, none⟩)] w fun e w' => e = .returned (.slice A n cc) ∧ Bk w' c (arr.setIfInBounds 29 (.slice none 0 0)) 191 ∧ Fz w w' [c] := by
  have c29 : w.cell? ⟨c, 29, none⟩ = some (.slice A n cc) := (h.c 29).trans h29
  have f29 := h.free 29
  have HB := Keep.mk h
  clear h h29
  go_enter Tryz.func136, Tryz.ntmps136
  go_wp2_with fail
  go_ret
  exact ⟨rfl, HB.out.set 29 _, Fz.set _ c 29 _⟩
set_option maxRecDepth 100000 in
theorem over_arr {w : World} {c : Nat} {arr : Array Value} {st : Int} (h : Bk w c arr 191) (h7 : arr[7]? = some (.int .i64 st)) (hst : st ≠ 8) :
    Calls Tryz.prog 137 #[.pointer (some ⟨c, 0, none⟩)] w fun e w' => e = .returned (.bool false) ∧ w' = w := by
  have c7 : w.cell? ⟨c, 7, none⟩ = some (.int .i64 st) := (h.c 7).trans h7
  have hs8 : (st == 8) = false := by simpa using hst
  clear h h7 hst
  go_enter Tryz.func137, Tryz.ntmps137
  go_wp2_with fail
  go_ret
  exact ⟨by first | rfl | simp, rfl⟩
structure Hcn (w : World) (lo : Nat) (outv : Value) (c : Nat) (arr : Array Value) (ov : Value) (rs : List SegR) (st : Int) : Prop where
  blk : Bk w c arr 191
  st7 : arr[7]? = some (.int .i64 st)
  ne8 : st ≠ 8
  out : arr[29]? = some ov
  row : w.ownsRow lo 132 13 ov rs.length (rs.flatMap Subtype.val)
  off : ∀ kb, ov.ownBlock = some kb → outv.ownBlock ≠ some kb
structure Stl (lo : Nat) (w wr : World) (hb tb m nbt : Nat) (seed : Int) (ports lv : Value) (made tick : Int) (outv : Value) (M : Int → Option En) (k : Nat) (l : List (Nat × Nat)) (ca : Nat → Array Value) (ovs : Nat → Value) (rs : Nat → List SegR) (sts : Nat → Int) (R : List SegR) (j : Nat) : Prop where
  ex : ∃ outv', Hst lo wr hb tb m nbt seed ports lv made tick outv' M k ∧ (∀ i s c, l[i]? = some (s, c) → j ≤ i → Hcn wr lo outv' c (ca i) (ovs i) (rs i) (sts i)) ∧
    (∀ i s c, l[i]? = some (s, c) → i < j → Bk wr c ((ca i).setIfInBounds 29 (.slice none 0 0)) 191) ∧
    wr.ownsRow lo 132 13 outv' (R ++ (List.range j).flatMap rs).length ((R ++ (List.range j).flatMap rs).flatMap Subtype.val) ∧ (∀ kb, outv'.ownBlock = some kb → outv.ownBlock = some kb ∨ w.heap.size ≤ kb)
  sk : Sk wr lo lv l
  fz : Fz w wr (hb :: (l.map Prod.snd ++ outv.ownBlock.toList))
theorem NIV {w : World} {lo k n b : Nat} {v : Value} {xs : List Value} {arr : Array Value} {ty ty' : TypeId} (h : w.ownsRow lo ty' k v n xs) (hb : Bk w b arr ty) (ht : ty' ≠ ty) : b ∉ v.ownBlock.toList := fun hm => by
  obtain ⟨_, cur, hk⟩ := own_ty h (by simpa using hm)
  exact hk.ne_ty hb ht rfl
theorem step_append_segs {w : World} {ops : Array Oper} {o : Oper} {a : Act} {K : Act → World → Prop} {Q : Exit → Act → World → Prop} {E : Prop} (hw : Region.wanted o (yielded ops a.tmps) = true) (s x : Operand)
    (ho : o.op = .call { callee := .builtin .append, args := #[s, x], argTypes := #[90, 90] }) (v : Value) (hs : a.eval s = v) (R : List SegR) {base base' : Nat} (hown : w.ownsRow base 132 13 v R.length (R.flatMap Subtype.val))
    (A : Option Addr) (m c : Nat) (rs : List SegR) (hx : a.eval x = .slice A m c) (hrow : w.ownsRow base' 132 13 (.slice A m c) rs.length (rs.flatMap Subtype.val)) (hm : rs.length = m) (hlen : (R ++ rs).length ≤ 100000) (hbase : base ≤ w.heap.size)
    (h : ∀ v' w', w'.ownsRow base 132 13 v' (R ++ rs).length ((R ++ rs).flatMap Subtype.val) → w.grownBy w' v.ownBlock → (v'.ownBlock = v.ownBlock ∨ v'.ownBlock = some w.heap.size) → K (a.put o.dst v') w') :
    if Region.wanted o (yielded ops a.tmps) = true then Oper.wp Tryz.prog o a w K Q else E := by
  obtain ⟨i0, hi, hz0, hz1, hz2⟩ := info_parts infoSeg
  rw [List.length_append] at hlen
  subst hm
  refine step_append_rd hw s x 90 ho base 132 i0 _ 13 104 Tryz.underlying90 hi hz0 hz1 hz2 rfl (by omega) v R.length (R.flatMap Subtype.val) hs hown A rs.length c w.heap.size Subtype.val rs hx (fun e => ?_) rfl (fun x => x.2.1) (Rd.of_own (fun x => x.2.1) (by omega) hrow) (fun x => x.2.2) (by unfold maxLen; omega) (by omega) hbase ?_
  · subst e
    rcases hrow.2 with ⟨e, _⟩ | ⟨g, cap, cur, e, _⟩
    · injection e
    · cases e
  · intro v' w' h1 h2 h3
    exact h v' w' (by rw [List.length_append, List.flatMap_append]; exact h1) h2 h3
theorem Hcn.fz {w w' : World} {lo c : Nat} {outv outv' ov : Value} {arr : Array Value} {rs : List SegR} {st : Int} {cs : List Nat} (h : Hcn w lo outv c arr ov rs st) (F : Fz w w' cs) (h1 : c ∉ cs) (h2 : ∀ kb, ov.ownBlock = some kb → kb ∉ cs) (h3 : ∀ kb, ov.ownBlock = some kb → outv'.ownBlock ≠ some kb) : Hcn w' lo outv' c arr ov rs st :=
  ⟨h.blk.fz F h1, h.st7, h.ne8, h.out, own_blockW h.row (fun kb e => let ⟨_, _, hk⟩ := own_ty h.row e; F.block kb hk.lt (h2 kb e)), h3⟩
theorem Hcn.lt {w : World} {lo c : Nat} {outv ov : Value} {arr : Array Value} {rs : List SegR} {st : Int} (h : Hcn w lo outv c arr ov rs st) {kb : Nat} (e : ov.ownBlock = some kb) : kb < w.heap.size := let ⟨_, _, hk⟩ := own_ty h.row e; hk.lt
theorem stl_step {lo : Nat} {w wr w5 : World} {hb tb m nbt : Nat} {seed : Int} {ports lv : Value} {made tick : Int} {outv outj v' : Value} {M : Int → Option En} {k : Nat} {l : List (Nat × Nat)} {ca : Nat → Array Value} {ovs : Nat → Value} {rs : Nat → List SegR} {sts : Nat → Int} {R : List SegR} {j s c : Nat} {drawn : Int} {pv : Value} {ps : List Int}
    (hsk : Sk wr lo lv l) (hfz : Fz w wr (hb :: (l.map Prod.snd ++ outv.ownBlock.toList))) (hst : Hst lo wr hb tb m nbt seed ports lv made tick outj M k) (hP : Prm wr pv ps) (hlk : l[j]? = some (s, c)) (hnd : (l.map Prod.snd).Nodup)
    (hcn : ∀ i s c, l[i]? = some (s, c) → j ≤ i → Hcn wr lo outj c (ca i) (ovs i) (rs i) (sts i)) (hcd : ∀ i s c, l[i]? = some (s, c) → i < j → Bk wr c ((ca i).setIfInBounds 29 (.slice none 0 0)) 191)
    (hrow : wr.ownsRow lo 132 13 outj (R ++ (List.range j).flatMap rs).length ((R ++ (List.range j).flatMap rs).flatMap Subtype.val))
    (hblk : ∀ kb, outj.ownBlock = some kb → outv.ownBlock = some kb ∨ w.heap.size ≤ kb)
    (hb5 : Bk w5 hb (hostC seed drawn pv ports lv made tb tick v') 92) (cb5 : Bk w5 c ((ca j).setIfInBounds 29 (.slice none 0 0)) 191) (F : Fz wr w5 (c :: hb :: outj.ownBlock.toList))
    (rw5 : w5.ownsRow lo 132 13 v' ((R ++ (List.range j).flatMap rs) ++ rs j).length (((R ++ (List.range j).flatMap rs) ++ rs j).flatMap Subtype.val)) (hv : ∀ kb, v'.ownBlock = some kb → outj.ownBlock = some kb ∨ wr.heap.size ≤ kb) :
    Stl lo w w5 hb tb m nbt seed ports lv made tick outv M k l ca ovs rs sts R (j + 1) := by
  obtain ⟨_, _, _, hB, _⟩ := hst.ex
  have hcj := hcn j s c hlk (Nat.le_refl _)
  have NIN : ∀ {b : Nat} {arr : Array Value} {ty : TypeId}, Bk wr b arr ty → 191 ≠ ty → 92 ≠ ty → 132 ≠ ty → b ∉ c :: hb :: outj.ownBlock.toList := fun hb' h1 h2 h3 hm => by
    rcases List.mem_cons.1 hm with rfl | hm
    · exact hcj.blk.ne_ty hb' h1 rfl
    rcases List.mem_cons.1 hm with rfl | hm
    · exact hB.ne_ty hb' h2 rfl
    · exact NIV hrow hb' h3 hm
  have hcc : ∀ i s' c', l[i]? = some (s', c') → i ≠ j → c' ≠ c := fun i s' c' hi hne e => by
    subst e
    have h1 : (l.map Prod.snd)[i]? = some c' := by rw [List.getElem?_map, hi]; rfl
    have h2 : (l.map Prod.snd)[j]? = some c' := by rw [List.getElem?_map, hlk]; rfl
    obtain ⟨hi1, h1⟩ := List.getElem?_eq_some_iff.1 h1
    obtain ⟨hj1, h2⟩ := List.getElem?_eq_some_iff.1 h2
    have a1 := hnd.idxOf_getElem i hi1
    have a2 := hnd.idxOf_getElem j hj1
    rw [h1] at a1
    rw [h2] at a2
    exact hne (a1.symm.trans a2)
  have hcx : ∀ {i s' c' : Nat} {arr : Array Value}, l[i]? = some (s', c') → i ≠ j → Bk wr c' arr 191 → c' ∉ c :: hb :: outj.ownBlock.toList := fun hi hne hb' hm => by
    rcases List.mem_cons.1 hm with e | hm
    · exact hcc _ _ _ hi hne e
    rcases List.mem_cons.1 hm with rfl | hm
    · exact hB.ne_ty hb' (by decide) rfl
    · exact NIV hrow hb' (by decide) hm
  have hR : (R ++ (List.range j).flatMap rs) ++ rs j = R ++ (List.range (j + 1)).flatMap rs := by
    rw [List.range_succ, List.flatMap_append, List.append_assoc]
    simp
  rw [hR] at rw5
  refine ⟨⟨v', ⟨⟨drawn, pv, ps, hb5, hP.fz F fun b cur hb' => NIN hb' (by decide) (by decide) (by decide)⟩, hst.tab.fz F (NIN hst.tab.bk (by decide) (by decide) (by decide)) (fun hm => ?_)⟩, fun i s' c' hi hji => ?_, fun i s' c' hi hij => ?_, rw5, fun kb e => ?_⟩, hsk.fz F (fun b cur hb' => NIN hb' (by decide) (by decide) (by decide)) (fun b cur hb' => NIN hb' (by decide) (by decide) (by decide)), (hfz.trans F).mono fun x hx hm => ?_⟩
  · rcases List.mem_cons.1 hm with e | hm
    · exact hst.ne.2.2 _ _ _ hcj.blk e.symm
    rcases List.mem_cons.1 hm with e | hm
    · exact hst.ne.2.1 e.symm
    · obtain ⟨_, cur, hk⟩ := own_ty hrow (by simpa using hm)
      exact hst.ne.2.2 _ _ _ hk rfl
  · have hq := hcn i s' c' hi (by omega)
    refine hq.fz F (hcx hi (by omega) hq.blk) (fun kb e hm => ?_) (fun kb e e' => ?_)
    · rcases List.mem_cons.1 hm with rfl | hm
      · obtain ⟨_, cur, hk⟩ := own_ty hq.row e
        exact hk.ne_ty hcj.blk (by decide) rfl
      rcases List.mem_cons.1 hm with rfl | hm
      · obtain ⟨_, cur, hk⟩ := own_ty hq.row e
        exact hk.ne_ty hB (by decide) rfl
      · exact hq.off kb e (by simpa using hm)
    · rcases hv kb e' with h1 | h1
      · exact hq.off kb e h1
      · have := hq.lt e
        omega
  · rcases Nat.lt_or_ge i j with h1 | h1
    · have hq := hcd i s' c' hi h1
      exact hq.fz F (hcx hi (by omega) hq)
    · obtain rfl : i = j := by omega
      rw [hlk] at hi
      cases hi
      exact cb5
  · rcases hv kb e with h1 | h1
    · exact hblk kb h1
    · exact .inr (Nat.le_trans hfz.size h1)
  · rcases List.mem_append.1 hm with h1 | h1
    · exact h1
    rcases List.mem_cons.1 h1 with rfl | h1
    · exact List.mem_cons.2 (.inr (List.mem_append.2 (.inl (List.mem_map.2 ⟨_, List.mem_of_getElem? hlk, rfl⟩))))
    rcases List.mem_cons.1 h1 with rfl | h1
    · simp
    · rcases hblk x (by simpa using h1) with h2 | h2
      · simp [h2]
      · omega
theorem range_len {l : List (Nat × Nat)} {R : List SegR} {rs : Nat → List SegR} {j : Nat} (hj : j ≤ l.length) : (R ++ (List.range j).flatMap rs).length ≤ (R ++ (List.range l.length).flatMap rs).length := by
  obtain ⟨d, hd⟩ : ∃ d, l.length = j + d := ⟨l.length - j, by omega⟩
  rw [hd, List.range_add, List.flatMap_append]
  simp only [List.length_append]
  omega
section
variable {lo : Nat} {w : World} {hb tb m nbt : Nat} {seed : Int} {ports lv : Value} {made tick : Int} {outv : Value} {M : Int → Option En} {k : Nat} {l : List (Nat × Nat)}
set_option maxRecDepth 100000 in
set_option maxHeartbeats 6400000 in
theorem hsettle_any (ca : Nat → Array Value) (ovs : Nat → Value) (rs : Nat → List SegR) (sts : Nat → Int) (R : List SegR) (h : Hst lo w hb tb m nbt seed ports lv made tick outv M k) (hs : Sk w lo lv l) (hl : l.length ≤ 1000)
    (hc : ∀ i s c, l[i]? = some (s, c) → Hcn w lo outv c (ca i) (ovs i) (rs i) (sts i)) (hnd : (l.map Prod.snd).Nodup) (hR : w.ownsRow lo 132 13 outv R.length (R.flatMap Subtype.val))
    (hRl : (R ++ (List.range l.length).flatMap rs).length ≤ 100000) (hlo : lo ≤ w.heap.size) :
    Calls Tryz.prog 89 #[.pointer (some ⟨hb, 0, none⟩)] w fun e w' => e = .returned (.tuple #[]) ∧ Stl lo w w' hb tb m nbt seed ports lv made tick outv M k l ca ovs rs sts R l.length := by
  obtain ⟨A, cc, rfl, hcc⟩ := own_slice hs.row
  obtain ⟨drawn, pv, ps, hB, hP⟩ := h.ex
  have g4 : w.cell? ⟨hb, 4, none⟩ = some (.slice A l.length cc) := hB.c 4
  have HI : Keep (Stl lo w w hb tb m nbt seed ports (.slice A l.length cc) made tick outv M k l ca ovs rs sts R 0) := ⟨⟨outv, h, fun i s c hi _ => hc i s c hi, fun i s c _ hi => by omega, by simpa using hR, fun kb e => .inl e⟩, hs, (Fz.refl w).mono (by simp)⟩
  have HND := Keep.mk hnd
  have HRL := Keep.mk hRl
  have HLO := Keep.mk hlo
  clear h hs hc hnd hR hRl hlo hB hP hcc
  go_enter Tryz.func89, Tryz.ntmps89
  go_wp2_with fail
  go_loopw [9] (fun i wr => ∃ j : Nat, j ≤ l.length ∧ i = .int .i64 j ∧ Keep (Stl lo w wr hb tb m nbt seed ports (.slice A l.length cc) made tick outv M k l ca ovs rs sts R j)) (fun i _ => l.length - (intOf i).toNat)
  case atStart => exact ⟨0, by omega, rfl, HI⟩
  case round =>
    obtain ⟨j, hj, rfl, HJ⟩ := hrel
    obtain ⟨outj, hst, hcn, hcd, hrow, hblk⟩ := HJ.out.ex
    obtain ⟨drawn, pv, ps, hB, hP⟩ := hst.ex
    rcases Nat.lt_or_ge j l.length with hlt | hge
    · obtain ⟨⟨s, c⟩, hd⟩ : ∃ d, l[j] = d := ⟨_, rfl⟩
      have hlk : l[j]? = some (s, c) := by rw [List.getElem?_eq_getElem hlt, hd]
      obtain ⟨g, c2, e, h0, hd', sn, hsb⟩ := HJ.out.sk.at hlk
      cases e
      have hcj := hcn j s c hlk (Nat.le_refl _)
      obtain ⟨Ao, co, hoe, hoc⟩ := own_slice hcj.row
      obtain ⟨Av, cv, hve, hvc⟩ := own_slice hrow
      have hlti : ((j : Nat) : Int) < (l.length : Int) := by omega
      have NE : Keep (hb ≠ s ∧ hb ≠ c ∧ s ≠ c) := ⟨hB.ne_ty hsb (by decide), hB.ne_ty hcj.blk (by decide), hsb.ne_ty hcj.blk (by decide)⟩
      have HB0 := Keep.mk (hB.fz (Fz.drew wr 1) (by simp))
      have SB0 := Keep.mk (hsb.fz (Fz.drew wr 1) (by simp))
      have CO := Keep.mk (cout_arr (hcj.blk.fz (Fz.drew wr 1) (by simp)) Ao (rs j).length co (hcj.out.trans (congrArg some hoe)))
      have g8 : wr.drew.cell? ⟨hb, 8, none⟩ = some outj := HB0.out.c 8
      have HCJ := Keep.mk hcj
      have HST := Keep.mk hst
      have HCN := Lib.hid hcn
      have HCD := Lib.hid hcd
      have HROW := Keep.mk hrow
      have HBLK := Keep.mk hblk
      have HLK := Keep.mk hlk
      have HP0 := Keep.mk hP
      have HLEN : Keep (((R ++ (List.range j).flatMap rs) ++ rs j).length ≤ 100000) := ⟨by
        have := range_len (R := R) (rs := rs) (j := j + 1) (l := l) (by omega)
        have := HRL.out
        rw [show (R ++ (List.range j).flatMap rs) ++ rs j = R ++ (List.range (j + 1)).flatMap rs by rw [List.range_succ, List.flatMap_append, List.append_assoc]; simp]
        omega⟩
      have HOE := Keep.mk hoe
      have HVE := Keep.mk hve
      clear hcn hcd hrow hblk hst hB hP hsb hcj hlk hd hoe hve
      go_wp2_with fail
      -- reg settle
      refine wp_region_noPanic ?_
      refine wp_region_held_drew (S := fun X => X.cell? ⟨s, 0, none⟩ = some (.pointer (some ⟨c, 0, none⟩))) (by kernel_rfl) (SB0.out.c 0) (fun hHeld => ?_)
      refine wpAnyH_take (i := 0) (v := ?_) rfl (by kernel_rfl) (by kernel_rfl) (by kernel_rfl) (fun _ _ _ h => h) (Or.inl ⟨by rfl, ?_⟩) (by assumption) ?_
      rotate_left
      · intro w hSw; go_simp; (try with_reducible rfl)
      try simp only [Act.put, List.setIfInBounds_toArray, List.set_cons_zero, List.set_cons_succ, List.getElem_toArray, List.getElem_cons_zero, List.getElem_cons_succ]
      refine wpAnyH_take (i := 1) (v := ?_) rfl (by kernel_rfl) (by kernel_rfl) (by kernel_rfl) (fun _ _ _ h => h) (Or.inl ⟨by rfl, ?_⟩) (by assumption) ?_
      rotate_left
      · intro w hSw; go_simp; (try with_reducible rfl)
      try simp only [Act.put, List.setIfInBounds_toArray, List.set_cons_zero, List.set_cons_succ, List.getElem_toArray, List.getElem_cons_zero, List.getElem_cons_succ]
      refine wpAnyH_take (i := 2) (v := ?_) rfl (by kernel_rfl) (by kernel_rfl) (by kernel_rfl) (fun _ _ _ h => h) (Or.inl ⟨by rfl, ?_⟩) (by assumption) ?_
      rotate_left
      · intro w hSw; go_simp; (try with_reducible rfl)
      try simp only [Act.put, List.setIfInBounds_toArray, List.set_cons_zero, List.set_cons_succ, List.getElem_toArray, List.getElem_cons_zero, List.getElem_cons_succ]
      refine wpAnyH_take (i := 3) (v := ?_) rfl (by kernel_rfl) (by kernel_rfl) (by kernel_rfl) (fun _ _ _ h => h) (Or.inl ⟨by rfl, ?_⟩) (by assumption) ?_
      rotate_left
      · intro w hSw; go_simp; (try with_reducible rfl)
      try simp only [Act.put, List.setIfInBounds_toArray, List.set_cons_zero, List.set_cons_succ, List.getElem_toArray, List.getElem_cons_zero, List.getElem_cons_succ]
      refine wpAnyH_take (i := 5) (v := ?_) rfl (by kernel_rfl) (by kernel_rfl) (by kernel_rfl) (fun _ _ _ h => h) (Or.inl ⟨by rfl, ?_⟩) (by assumption) ?_
      rotate_left
      · intro w hSw; go_simp; (try with_reducible rfl)
      try simp only [Act.put, List.setIfInBounds_toArray, List.set_cons_zero, List.set_cons_succ, List.getElem_toArray, List.getElem_cons_zero, List.getElem_cons_succ]
      refine wpAnyH_take (i := 6) (v := ?_) rfl (by kernel_rfl) (by kernel_rfl) (by kernel_rfl) (fun _ _ _ h => h) (Or.inl ⟨by rfl, ?_⟩) (by assumption) ?_
      rotate_left
      · intro w hSw; go_simp; (try with_reducible rfl)
      try simp only [Act.put, List.setIfInBounds_toArray, List.set_cons_zero, List.set_cons_succ, List.getElem_toArray, List.getElem_cons_zero, List.getElem_cons_succ]
      refine wpAnyH_take (i := 7) (v := ?_) rfl (by kernel_rfl) (by kernel_rfl) (by kernel_rfl) (fun _ _ _ h => h) (Or.inl ⟨by rfl, ?_⟩) (by assumption) ?_
      rotate_left
      · intro w hSw; go_simp; (try with_reducible rfl)
      try simp only [Act.put, List.setIfInBounds_toArray, List.set_cons_zero, List.set_cons_succ, List.getElem_toArray, List.getElem_cons_zero, List.getElem_cons_succ]
      refine wpAnyH_take (i := 8) (v := ?_) rfl (by kernel_rfl) (by kernel_rfl) (by kernel_rfl) (fun _ _ _ h => h) (Or.inl ⟨by rfl, ?_⟩) (by assumption) ?_
      rotate_left
      · intro w hSw; go_simp; (try with_reducible rfl)
      try simp only [Act.put, List.setIfInBounds_toArray, List.set_cons_zero, List.set_cons_succ, List.getElem_toArray, List.getElem_cons_zero, List.getElem_cons_succ]
      refine wpAnyH_ready (rs := [4, 9]) (by kernel_rfl) (by simp) ?_
      refine AllReadyH.cons rfl (fun K hK => ?_) (AllReadyH.cons rfl (fun K hK => ?_) AllReadyH.nil)
      · go_simp
        refine hK.out _ _ ?_ (fun hHeld => ?_)
        · first | exact SB0.out.c 0 | exact SB3.out.c 0 | exact SB4.out.c 0 | exact (SB4.out.fz (Fz.set w4 hb 8 (.slice A4 n4 k4)) (by simp; exact fun e => NE.out.1 e.symm)).c 0
        clear hK K
        try simp only [Act.put, List.setIfInBounds_toArray, List.set_cons_zero, List.set_cons_succ, List.getElem_toArray, List.getElem_cons_zero, List.getElem_cons_succ]
        refine wpAnyH_ready (rs := [9]) (by kernel_rfl) (by simp) ?_
        refine AllReadyH.cons rfl (fun K hK => ?_) AllReadyH.nil
        go_simp
        refine CO.out.mono ?_
        rintro e w3 ⟨rfl, c3, x3⟩
        have X3 := ((Fz.drew wr 1).trans x3).mono (cs' := [c]) (by simp)
        have HB3 := Keep.mk (HB0.out.fz x3 (by simp; exact NE.out.2.1))
        have SB3 := Keep.mk (SB0.out.fz x3 (by simp; exact NE.out.2.2))
        have CB3 := Keep.mk c3
        have FX3 := Keep.mk X3
        have g8b : w3.cell? ⟨hb, 8, none⟩ = some outj := HB3.out.c 8
        have OR3 : Keep (w3.ownsRow lo 132 13 (.slice Ao (rs j).length co) (rs j).length ((rs j).flatMap Subtype.val)) := ⟨HOE.out ▸ own_blockW HCJ.out.row (fun kb e => let ⟨_, _, h2⟩ := own_ty HCJ.out.row e; X3.block kb h2.lt (by simp; exact h2.ne_ty HCJ.out.blk (by decide)))⟩
        have RW3 : Keep (w3.ownsRow lo 132 13 outj _ _) := ⟨own_blockW HROW.out (fun kb e => let ⟨_, _, h2⟩ := own_ty HROW.out e; X3.block kb h2.lt (by simp; exact h2.ne_ty HCJ.out.blk (by decide)))⟩
        clear c3 x3 X3
        refine hK.out _ _ ?_ (fun hHeld => ?_)
        · first | exact SB0.out.c 0 | exact SB3.out.c 0 | exact SB4.out.c 0 | exact (SB4.out.fz (Fz.set w4 hb 8 (.slice A4 n4 k4)) (by simp; exact fun e => NE.out.1 e.symm)).c 0
        clear hK K
        try simp only [Act.put, List.setIfInBounds_toArray, List.set_cons_zero, List.set_cons_succ, List.getElem_toArray, List.getElem_cons_zero, List.getElem_cons_succ]
        refine wpAnyH_ready (rs := [10]) (by kernel_rfl) (by simp) ?_
        refine AllReadyH.cons rfl (fun K hK => ?_) AllReadyH.nil
        refine step_append_segs rfl (.tmp 17) (.tmp 22) rfl outj rfl _ RW3.out Ao (rs j).length co (rs j) rfl OR3.out rfl (HLEN.out) (Nat.le_trans HLO.out (Nat.le_trans HJ.out.fz.size FX3.out.size)) ?_
        intro v' w4 ho4 hg4 hv4
        obtain ⟨A4, n4, k4, rfl⟩ : ∃ A n c, v' = .slice A n c := let ⟨A, c, h, _⟩ := own_slice ho4; ⟨A, _, c, h⟩
        have F4 := Fz.grown hg4
        have HB4 := Keep.mk (HB3.out.fz F4 (NIV RW3.out HB3.out (by decide)))
        have SB4 := Keep.mk (SB3.out.fz F4 (NIV RW3.out SB3.out (by decide)))
        have CB4 := Keep.mk (CB3.out.fz F4 (NIV RW3.out CB3.out (by decide)))
        have d8 : w4.cell? ⟨hb, 8, none⟩ = some outj := HB4.out.c 8
        have f8 := HB4.out.free 8
        have FX4 := Keep.mk (FX3.out.trans F4)
        have HO4 := Keep.mk ho4
        have HV4 : Keep (∀ kb, Value.ownBlock (.slice A4 n4 k4) = some kb → outj.ownBlock = some kb ∨ wr.heap.size ≤ kb) := ⟨fun kb e => hv4.elim (fun h => .inl (h.symm.trans e)) (fun h => .inr (by rw [h] at e; cases e; exact FX3.out.size))⟩
        clear ho4 hg4 hv4 F4
        refine hK.out _ _ ?_ (fun hHeld => ?_)
        · first | exact SB0.out.c 0 | exact SB3.out.c 0 | exact SB4.out.c 0 | exact (SB4.out.fz (Fz.set w4 hb 8 (.slice A4 n4 k4)) (by simp; exact fun e => NE.out.1 e.symm)).c 0
        clear hK K
        try simp only [Act.put, List.setIfInBounds_toArray, List.set_cons_zero, List.set_cons_succ, List.getElem_toArray, List.getElem_cons_zero, List.getElem_cons_succ]
        refine wpAnyH_take (i := 11) (v := ?_) rfl (by kernel_rfl) (by kernel_rfl) (by kernel_rfl) (fun _ _ _ h => h) (Or.inl ⟨by rfl, ?_⟩) (by assumption) ?_
        rotate_left
        · intro w hSw; go_simp; (try with_reducible rfl)
        try simp only [Act.put, List.setIfInBounds_toArray, List.set_cons_zero, List.set_cons_succ, List.getElem_toArray, List.getElem_cons_zero, List.getElem_cons_succ]
        refine wpAnyH_take (i := 12) (v := ?_) rfl (by kernel_rfl) (by kernel_rfl) (by kernel_rfl) (fun _ _ _ h => h) (Or.inl ⟨by rfl, ?_⟩) (by assumption) ?_
        rotate_left
        · intro w hSw; go_simp; (try with_reducible rfl)
        try simp only [Act.put, List.setIfInBounds_toArray, List.set_cons_zero, List.set_cons_succ, List.getElem_toArray, List.getElem_cons_zero, List.getElem_cons_succ]
        refine wpAnyH_ready (rs := [13]) (by kernel_rfl) (by simp) ?_
        refine AllReadyH.cons rfl (fun K hK => ?_) AllReadyH.nil
        go_simp
        refine hK.out _ _ ?_ (fun hHeld => ?_)
        · first | exact SB0.out.c 0 | exact SB3.out.c 0 | exact SB4.out.c 0 | exact (SB4.out.fz (Fz.set w4 hb 8 (.slice A4 n4 k4)) (by simp; exact fun e => NE.out.1 e.symm)).c 0
        clear hK K
        try simp only [Act.put, List.setIfInBounds_toArray, List.set_cons_zero, List.set_cons_succ, List.getElem_toArray, List.getElem_cons_zero, List.getElem_cons_succ]
        refine wpAnyH_done (by kernel_rfl) ?_ _
        refine NoPanic.normal ?_
        obtain ⟨w5, hw5⟩ : ∃ w5, w4.setCell ⟨hb, 8, none⟩ (.slice A4 n4 k4) = w5 := ⟨_, rfl⟩
        have X5 : Fz w4 w5 [hb] := hw5 ▸ Fz.set w4 hb 8 _
        have HB5 : Keep (Bk w5 hb (hostC seed drawn pv ports (.slice (some ⟨g, 0, none⟩) l.length cc) made tb tick (.slice A4 n4 k4)) 92) := ⟨hw5 ▸ HB4.out.set 8 _⟩
        have CB5 := Keep.mk (CB4.out.fz X5 (by simp; exact fun e => NE.out.2.1 e.symm))
        have s0 : w5.cell? ⟨s, 0, none⟩ = some (.pointer (some ⟨c, 0, none⟩)) := (SB4.out.fz X5 (by simp; exact fun e => NE.out.1 e.symm)).c 0
        have OV := Keep.mk (over_arr CB5.out (st := sts j) (by rw [Array.getElem?_setIfInBounds_ne (by decide)]; exact HCJ.out.st7) HCJ.out.ne8)
        have FX5 : Keep (Fz wr w5 (c :: hb :: outj.ownBlock.toList)) := ⟨(FX4.out.trans X5).mono (fun x _ hx => by simp only [List.mem_append, List.mem_cons, List.not_mem_nil, or_false] at hx ⊢; rcases hx with (hx | hx) | hx <;> simp [hx])⟩
        have RW5 : Keep (w5.ownsRow lo 132 13 (.slice A4 n4 k4) _ _) := ⟨own_blockW HO4.out (fun kb e => let ⟨_, _, h2⟩ := own_ty HO4.out e; X5.block kb h2.lt (by simp; exact h2.ne_ty HB4.out (by decide)))⟩
        rw [hw5]
        clear X5 hw5
        go_wp2_with (first
          | (go_at_call 137
             go_loud (refine OV.out.mono ?_; rintro e X ⟨rfl, hX⟩)
             rw [hX]
             clear hX)
          | fail)
        go_roundw
        case rel => exact ⟨j + 1, by omega, by go_num, ⟨stl_step HJ.out.sk HJ.out.fz HST.out HP0.out HLK.out HND.out HCN.out HCD.out HROW.out HBLK.out HB5.out CB5.out FX5.out RW5.out HV4.out⟩⟩
        case measure => simp [intOf] <;> omega
      · go_simp
        refine CO.out.mono ?_
        rintro e w3 ⟨rfl, c3, x3⟩
        have X3 := ((Fz.drew wr 1).trans x3).mono (cs' := [c]) (by simp)
        have HB3 := Keep.mk (HB0.out.fz x3 (by simp; exact NE.out.2.1))
        have SB3 := Keep.mk (SB0.out.fz x3 (by simp; exact NE.out.2.2))
        have CB3 := Keep.mk c3
        have FX3 := Keep.mk X3
        have g8b : w3.cell? ⟨hb, 8, none⟩ = some outj := HB3.out.c 8
        have OR3 : Keep (w3.ownsRow lo 132 13 (.slice Ao (rs j).length co) (rs j).length ((rs j).flatMap Subtype.val)) := ⟨HOE.out ▸ own_blockW HCJ.out.row (fun kb e => let ⟨_, _, h2⟩ := own_ty HCJ.out.row e; X3.block kb h2.lt (by simp; exact h2.ne_ty HCJ.out.blk (by decide)))⟩
        have RW3 : Keep (w3.ownsRow lo 132 13 outj _ _) := ⟨own_blockW HROW.out (fun kb e => let ⟨_, _, h2⟩ := own_ty HROW.out e; X3.block kb h2.lt (by simp; exact h2.ne_ty HCJ.out.blk (by decide)))⟩
        clear c3 x3 X3
        refine hK.out _ _ ?_ (fun hHeld => ?_)
        · first | exact SB0.out.c 0 | exact SB3.out.c 0 | exact SB4.out.c 0 | exact (SB4.out.fz (Fz.set w4 hb 8 (.slice A4 n4 k4)) (by simp; exact fun e => NE.out.1 e.symm)).c 0
        clear hK K
        try simp only [Act.put, List.setIfInBounds_toArray, List.set_cons_zero, List.set_cons_succ, List.getElem_toArray, List.getElem_cons_zero, List.getElem_cons_succ]
        refine wpAnyH_ready (rs := [4]) (by kernel_rfl) (by simp) ?_
        refine AllReadyH.cons rfl (fun K hK => ?_) AllReadyH.nil
        go_simp
        refine hK.out _ _ ?_ (fun hHeld => ?_)
        · first | exact SB0.out.c 0 | exact SB3.out.c 0 | exact SB4.out.c 0 | exact (SB4.out.fz (Fz.set w4 hb 8 (.slice A4 n4 k4)) (by simp; exact fun e => NE.out.1 e.symm)).c 0
        clear hK K
        try simp only [Act.put, List.setIfInBounds_toArray, List.set_cons_zero, List.set_cons_succ, List.getElem_toArray, List.getElem_cons_zero, List.getElem_cons_succ]
        refine wpAnyH_ready (rs := [10]) (by kernel_rfl) (by simp) ?_
        refine AllReadyH.cons rfl (fun K hK => ?_) AllReadyH.nil
        refine step_append_segs rfl (.tmp 17) (.tmp 22) rfl outj rfl _ RW3.out Ao (rs j).length co (rs j) rfl OR3.out rfl (HLEN.out) (Nat.le_trans HLO.out (Nat.le_trans HJ.out.fz.size FX3.out.size)) ?_
        intro v' w4 ho4 hg4 hv4
        obtain ⟨A4, n4, k4, rfl⟩ : ∃ A n c, v' = .slice A n c := let ⟨A, c, h, _⟩ := own_slice ho4; ⟨A, _, c, h⟩
        have F4 := Fz.grown hg4
        have HB4 := Keep.mk (HB3.out.fz F4 (NIV RW3.out HB3.out (by decide)))
        have SB4 := Keep.mk (SB3.out.fz F4 (NIV RW3.out SB3.out (by decide)))
        have CB4 := Keep.mk (CB3.out.fz F4 (NIV RW3.out CB3.out (by decide)))
        have d8 : w4.cell? ⟨hb, 8, none⟩ = some outj := HB4.out.c 8
        have f8 := HB4.out.free 8
        have FX4 := Keep.mk (FX3.out.trans F4)
        have HO4 := Keep.mk ho4
        have HV4 : Keep (∀ kb, Value.ownBlock (.slice A4 n4 k4) = some kb → outj.ownBlock = some kb ∨ wr.heap.size ≤ kb) := ⟨fun kb e => hv4.elim (fun h => .inl (h.symm.trans e)) (fun h => .inr (by rw [h] at e; cases e; exact FX3.out.size))⟩
        clear ho4 hg4 hv4 F4
        refine hK.out _ _ ?_ (fun hHeld => ?_)
        · first | exact SB0.out.c 0 | exact SB3.out.c 0 | exact SB4.out.c 0 | exact (SB4.out.fz (Fz.set w4 hb 8 (.slice A4 n4 k4)) (by simp; exact fun e => NE.out.1 e.symm)).c 0
        clear hK K
        try simp only [Act.put, List.setIfInBounds_toArray, List.set_cons_zero, List.set_cons_succ, List.getElem_toArray, List.getElem_cons_zero, List.getElem_cons_succ]
        refine wpAnyH_take (i := 11) (v := ?_) rfl (by kernel_rfl) (by kernel_rfl) (by kernel_rfl) (fun _ _ _ h => h) (Or.inl ⟨by rfl, ?_⟩) (by assumption) ?_
        rotate_left
        · intro w hSw; go_simp; (try with_reducible rfl)
        try simp only [Act.put, List.setIfInBounds_toArray, List.set_cons_zero, List.set_cons_succ, List.getElem_toArray, List.getElem_cons_zero, List.getElem_cons_succ]
        refine wpAnyH_take (i := 12) (v := ?_) rfl (by kernel_rfl) (by kernel_rfl) (by kernel_rfl) (fun _ _ _ h => h) (Or.inl ⟨by rfl, ?_⟩) (by assumption) ?_
        rotate_left
        · intro w hSw; go_simp; (try with_reducible rfl)
        try simp only [Act.put, List.setIfInBounds_toArray, List.set_cons_zero, List.set_cons_succ, List.getElem_toArray, List.getElem_cons_zero, List.getElem_cons_succ]
        refine wpAnyH_ready (rs := [13]) (by kernel_rfl) (by simp) ?_
        refine AllReadyH.cons rfl (fun K hK => ?_) AllReadyH.nil
        go_simp
        refine hK.out _ _ ?_ (fun hHeld => ?_)
        · first | exact SB0.out.c 0 | exact SB3.out.c 0 | exact SB4.out.c 0 | exact (SB4.out.fz (Fz.set w4 hb 8 (.slice A4 n4 k4)) (by simp; exact fun e => NE.out.1 e.symm)).c 0
        clear hK K
        try simp only [Act.put, List.setIfInBounds_toArray, List.set_cons_zero, List.set_cons_succ, List.getElem_toArray, List.getElem_cons_zero, List.getElem_cons_succ]
        refine wpAnyH_done (by kernel_rfl) ?_ _
        refine NoPanic.normal ?_
        obtain ⟨w5, hw5⟩ : ∃ w5, w4.setCell ⟨hb, 8, none⟩ (.slice A4 n4 k4) = w5 := ⟨_, rfl⟩
        have X5 : Fz w4 w5 [hb] := hw5 ▸ Fz.set w4 hb 8 _
        have HB5 : Keep (Bk w5 hb (hostC seed drawn pv ports (.slice (some ⟨g, 0, none⟩) l.length cc) made tb tick (.slice A4 n4 k4)) 92) := ⟨hw5 ▸ HB4.out.set 8 _⟩
        have CB5 := Keep.mk (CB4.out.fz X5 (by simp; exact fun e => NE.out.2.1 e.symm))
        have s0 : w5.cell? ⟨s, 0, none⟩ = some (.pointer (some ⟨c, 0, none⟩)) := (SB4.out.fz X5 (by simp; exact fun e => NE.out.1 e.symm)).c 0
        have OV := Keep.mk (over_arr CB5.out (st := sts j) (by rw [Array.getElem?_setIfInBounds_ne (by decide)]; exact HCJ.out.st7) HCJ.out.ne8)
        have FX5 : Keep (Fz wr w5 (c :: hb :: outj.ownBlock.toList)) := ⟨(FX4.out.trans X5).mono (fun x _ hx => by simp only [List.mem_append, List.mem_cons, List.not_mem_nil, or_false] at hx ⊢; rcases hx with (hx | hx) | hx <;> simp [hx])⟩
        have RW5 : Keep (w5.ownsRow lo 132 13 (.slice A4 n4 k4) _ _) := ⟨own_blockW HO4.out (fun kb e => let ⟨_, _, h2⟩ := own_ty HO4.out e; X5.block kb h2.lt (by simp; exact h2.ne_ty HB4.out (by decide)))⟩
        rw [hw5]
        clear X5 hw5
        go_wp2_with (first
          | (go_at_call 137
             go_loud (refine OV.out.mono ?_; rintro e X ⟨rfl, hX⟩)
             rw [hX]
             clear hX)
          | fail)
        go_roundw
        case rel => exact ⟨j + 1, by omega, by go_num, ⟨stl_step HJ.out.sk HJ.out.fz HST.out HP0.out HLK.out HND.out HCN.out HCD.out HROW.out HBLK.out HB5.out CB5.out FX5.out RW5.out HV4.out⟩⟩
        case measure => simp [intOf] <;> omega
      -- end reg
    · obtain rfl : j = l.length := by omega
      have HB9 := Keep.mk hB
      have HSK := Keep.mk HJ.out.sk
      have DL := Keep.mk (hdel_none HSK.out hl)
      have e4 : wr.cell? ⟨hb, 4, none⟩ = some (.slice A l.length cc) := hB.c 4
      have f4 := hB.free 4
      have hset : wr.setCell ⟨hb, 4, none⟩ (.slice A l.length cc) = wr := hB.self rfl
      clear hcn hcd hrow hblk hst hB hP
      go_wp2_with (first
        | (go_at_call 140
           go_loud (refine DL.out.mono ?_; rintro e X ⟨rfl, hX⟩)
           rw [hX]
           clear hX)
        | fail)
      go_end0
      exact ⟨rfl, by first | exact HJ.out | (rw [hset]; exact HJ.out)⟩
end
end Go.Proofs.YtjpokeakemlffaaGreatDoor
