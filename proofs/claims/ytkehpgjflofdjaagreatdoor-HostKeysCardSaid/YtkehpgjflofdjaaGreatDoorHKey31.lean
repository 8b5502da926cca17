/-
  Walks and laws, one behind the other (part 31).
-/
import Derived.Test.YtkehpgjflofdjaaGreatDoorHKey29
import Derived.Test.YtkehpgjflofdjaaGreatDoorHKey30
set_option linter.unusedSimpArgs false
set_option linter.unusedVariables false
/-
  A host's keys and tokens: Prime, Tokens; what the law makes of them.
-/
namespace Go.Proofs.YtkehpgjflofdjaaGreatDoor
open Go.RowKit

theorem infoU64 : (Tryz.prog.info? 30).map (fun i => (i.zero, i.size, i.bytes)) = some (some (.int .u64 0), 1, 8) := by kernel_rfl
theorem encU_one (x : Int) : ∀ u ∈ encU x, u.oneCell' = true := by simp [encU, Value.oneCell']
set_option maxRecDepth 100000 in
set_option maxHeartbeats 1600000 in
theorem hprime_any {lo : Nat} {w : World} {hb tb : Nat} {seed drawn made tick : Int} {pv ports lv outv : Value} {A : Option Addr} {n c : Nat} (ps ks : List Int) (h : Bk w hb (hostC seed drawn pv ports lv made tb tick outv) 68)
    (hown : w.ownsRow lo 30 1 pv ps.length (ps.flatMap encU)) (ha : Arg w 1 encU A n c ks) (hlo : lo ≤ w.heap.size) (hl : ps.length + n ≤ 1000) :
    Calls Tryz.prog 7 #[.pointer (some ⟨hb, 0, none⟩), .slice A n c] w fun e w' => e = .returned (.tuple #[]) ∧ ∃ pv', Bk w' hb (hostC seed drawn pv' ports lv made tb tick outv) 68 ∧
      w'.ownsRow lo 30 1 pv' (ps ++ ks).length ((ps ++ ks).flatMap encU) ∧ Fz w w' (hb :: pv.ownBlock.toList) := by
  obtain ⟨A0, c0, rfl, -⟩ := own_slice hown
  have c2 : w.cell? ⟨hb, 2, none⟩ = some (.slice A0 ps.length c0) := h.c 2
  have HB := Keep.mk h
  have HO := Keep.mk hown
  have HA := Keep.mk ha
  have HL : Keep (lo ≤ w.heap.size ∧ ps.length + n ≤ 1000) := ⟨hlo, hl⟩
  clear h hown ha hlo hl
  obtain ⟨i0, hi, hz0, hz1, hz2⟩ := info_parts infoU64
  have HI : Keep (Tryz.prog.info? 30 = some i0 ∧ i0.zero = some (.int .u64 0) ∧ i0.size = 1 ∧ i0.bytes = 8) := ⟨hi, hz0, hz1, hz2⟩
  clear hi hz0 hz1 hz2
  go_enter Tryz.func7, Tryz.ntmps7
  go_wp2_with (first
    | (refine wpList_append_rd rfl (.tmp 10) (.tmp 11) 54 rfl lo 30 i0 _ 1 8 Tryz.underlying54 HI.out.1 HI.out.2.1 HI.out.2.2.1 HI.out.2.2.2 rfl (by omega) (.slice A0 ps.length c0) ps.length (ps.flatMap encU) rfl HO.out A n c w.heap.size encU ks rfl HA.out.hnil HA.out.hlen encU_length HA.out.rd encU_one (by unfold maxLen; have := HL.out.2; omega) (by have := HL.out.2; omega) HL.out.1 ?_
       intro v' w3 ho3 hg3 hv3
       obtain ⟨A3, n3, c3, rfl⟩ : ∃ A n c, v' = .slice A n c := let ⟨A, c, h, _⟩ := own_slice ho3; ⟨A, _, c, h⟩
       have F3 := Fz.grown hg3
       have B3 := HB.out.fz F3 (NIV HO.out HB.out (by decide))
       have d2 : w3.cell? ⟨hb, 2, none⟩ = some (.slice A0 ps.length c0) := B3.c 2
       have f2 := B3.free 2
       have HB3 := Keep.mk B3
       have HO3 := Keep.mk ho3
       have X3 := Keep.mk F3
       clear ho3 hg3 hv3 F3 B3)
    | fail)
  first
    | go_end0
    | (try simp only [Exit.inBlock, Exit.then]
       refine bodyPost_ret (results_none rfl _ _ _) rfl ?_)
  have T := Fz.set w3 hb 2 (.slice A3 n3 c3)
  refine ⟨rfl, _, HB3.out.set 2 _, ?_, (X3.out.trans T).mono (fun x _ hx => by simp only [List.mem_append, List.mem_cons, List.not_mem_nil, or_false] at hx ⊢; exact hx.symm)⟩
  have hr := own_blockW HO3.out (w' := w3.setCell ⟨hb, 2, none⟩ (.slice A3 n3 c3)) (fun kb e => let ⟨_, _, h2⟩ := own_ty HO3.out e; T.block kb h2.lt (by simp; exact h2.ne_ty HB3.out (by decide)))
  rw [List.length_append, List.flatMap_append, HA.out.hlen]
  exact hr
theorem Prm.own {lo : Nat} {w : World} {pv : Value} {ps : List Int} (h : w.ownsRow lo 30 1 pv ps.length (ps.flatMap encU)) (hw : ∀ x ∈ ps, 0 ≤ x ∧ x < 18446744073709551616) : Prm w pv ps := by
  obtain ⟨A, c, rfl, hc⟩ := own_slice h
  refine ⟨hw, A, c, rfl, hc, fun hne => ?_⟩
  rcases h.2 with ⟨e, e2⟩ | ⟨g, cap, cur, e, hb, hg, hnc, hcm, hcs, htake⟩
  · exact absurd (List.eq_nil_of_length_eq_zero e2) hne
  · cases e
    refine ⟨g, 0, cur, rfl, ⟨hg⟩, fun i x hx => ?_⟩
    have hi : i < ps.length := (List.getElem?_eq_some_iff.1 hx).1
    rw [Nat.zero_add, ← Array.getElem?_toList]
    have hf := flat_at (enc := encU) encU_length ps i x hx 0 _ rfl
    rw [← htake, List.getElem?_take_of_lt (by omega)] at hf
    simpa using hf
section
variable {lo : Nat} {w : World} {hb tb m nbt : Nat} {seed drawn made tick : Int} {pv ports lv outv : Value} {M : Int → Option En} {k : Nat}
set_option maxRecDepth 100000 in
theorem htokens_any (h : Bk w hb (hostC seed drawn pv ports lv made tb tick outv) 68) (hT : Tb w lo tb m nbt 4 M k) (hk : k ≤ 100000) :
    Calls Tryz.prog 25 #[.pointer (some ⟨hb, 0, none⟩)] w fun e w' => ∃ (v : Value) (ts : List Int), e = .returned v ∧ (∀ t, t ∈ ts ↔ (M t).isSome = true) ∧ ts.Nodup ∧ ts.Pairwise (· ≤ ·) ∧ ts.length ≤ k ∧
      w'.ownsRow (w.heap.size + 1) 97 4 v ts.length (ts.flatMap (encE (fOf M))) ∧ Below w.heap.size w w' := by
  have c6 : w.cell? ⟨hb, 6, none⟩ = some (.pointer (some ⟨tb, 0, none⟩)) := h.c 6
  have AL := Keep.mk (all_any lo tb m nbt 4 M k w hT hk)
  clear h hT hk
  go_enter Tryz.func25, Tryz.ntmps25
  go_wp2_with (first
    | (go_at_call 67
       go_loud (refine AL.out.mono ?_; rintro e w1 ⟨v, ts, rfl, h1, h2, h3, h4, h5, h6⟩)
       have H := Keep.mk (And.intro h1 (And.intro h2 (And.intro h3 (And.intro h4 (And.intro h5 h6)))))
       obtain ⟨Av, nv, cv, rfl⟩ : ∃ A n c, v = .slice A n c := let ⟨A, c, h, _⟩ := own_slice h5; ⟨A, _, c, h⟩
       clear h1 h2 h3 h4 h5 h6)
    | fail)
  go_ret
  exact ⟨_, ts, rfl, H.out⟩
/-- An entry as the reference's. -/
def encF (f : Int → En) (t : Int) : List Value := [.int .u32 t, .bool (f t).l, .int .i64 (f t).o, .int .i64 (f t).u]
theorem encF_length (f : Int → En) (t : Int) : (encF f t).length = 4 := rfl
theorem infoF : (Tryz.prog.info? 62).map (fun i => (i.zero, i.size, i.bytes)) = some (some (.agg #[.int .u32 0, .bool false, .int .i64 0, .int .i64 0]), 4, 24) := by kernel_rfl
set_option maxRecDepth 100000 in
set_option maxHeartbeats 3200000 in
theorem hentries_any (h : Bk w hb (hostC seed drawn pv ports lv made tb tick outv) 68) (hT : Tb w lo tb m nbt 4 M k) (hk : k ≤ 1000) :
    Calls Tryz.prog 28 #[.pointer (some ⟨hb, 0, none⟩)] w fun e w' => ∃ (v : Value) (ts : List Int), e = .returned v ∧ (∀ t, t ∈ ts ↔ (M t).isSome = true) ∧ ts.Nodup ∧ ts.Pairwise (· ≤ ·) ∧ ts.length ≤ k ∧
      w'.ownsRow w.heap.size 62 4 v ts.length (ts.flatMap (encF (fOf M))) ∧ Below w.heap.size w w' := by
  have TO := Keep.mk (htokens_any h hT (by omega))
  have HK := Keep.mk hk
  clear h hT hk
  go_enter Tryz.func28, Tryz.ntmps28
  go_wp2_with (first
    | (go_at_call 25
       go_loud (refine TO.out.mono ?_; rintro e w1 ⟨v, ts, rfl, h1, h2, h3, h4, h5, h6⟩)
       have H := Keep.mk (And.intro h1 (And.intro h2 (And.intro h3 (And.intro h4 h6))))
       obtain ⟨Av, cv, rfl, -⟩ := own_slice h5
       have HR := Lib.hid (Rd.of_own (encE_length (fOf M)) (by decide) h5)
       clear h1 h2 h3 h4 h5 h6)
    | fail)
  go_loopw [3, 9] (fun out i wr => ∃ j : Nat, j ≤ ts.length ∧ i = .int .i64 j ∧ Keep (wr.ownsRow w1.heap.size 62 4 out j ((ts.take j).flatMap (encF (fOf M))) ∧ Below w1.heap.size w1 wr)) (fun _ i _ => ts.length - (intOf i).toNat)
  case atStart => exact ⟨0, by omega, rfl, ⟨by simpa using World.ownsRow_nil _ _ _ _, Below.refl _ _⟩⟩
  case round =>
    obtain ⟨j, hj, rfl, HQ⟩ := hrel
    obtain ⟨Ao, co, rfl, -⟩ := own_slice HQ.out.1
    rcases Nat.lt_or_ge j ts.length with hlt | hge
    · obtain ⟨t, ht⟩ : ∃ t, ts[j] = t := ⟨_, rfl⟩
      have htj : ts[j]? = some t := by rw [List.getElem?_eq_getElem hlt, ht]
      obtain ⟨g, off, rfl, hg, hcs⟩ := HR.out (List.ne_nil_of_length_pos (by omega))
      obtain ⟨x, hx⟩ : ∃ x, fOf M t = x := ⟨_, rfl⟩
      have cc : ∀ y u, (encE (fOf M) t)[y]? = some u → wr.cell? ⟨g, off + j * 4 + y, none⟩ = some u := fun y u hu => (HQ.out.2.cell hg).trans (hcs j t htj y u hu)
      have r0 : wr.cell? ⟨g, off + j * 4, none⟩ = some (.int .u32 t) := cc 0 _ rfl
      have r1 : wr.cell? ⟨g, off + j * 4 + 1, none⟩ = some (.int .i64 x.o) := hx ▸ cc 1 _ rfl
      have r2 : wr.cell? ⟨g, off + j * 4 + 2, none⟩ = some (.bool x.l) := hx ▸ cc 2 _ rfl
      have r3 : wr.cell? ⟨g, off + j * 4 + 3, none⟩ = some (.int .i64 x.u) := hx ▸ cc 3 _ rfl
      obtain ⟨W, hW⟩ : ∃ W, wr.alloc (.cells #[.int .u32 t, .int .i64 x.o, .bool x.l, .int .i64 x.u] 97) = W := ⟨_, rfl⟩
      have NB : Bk W wr.heap.size #[.int .u32 t, .int .i64 x.o, .bool x.l, .int .i64 x.u] 97 := hW ▸ Bk.new wr _ _
      have s0 : W.cell? ⟨wr.heap.size, 0, none⟩ = some (.int .u32 t) := NB.c 0
      have s1 : W.cell? ⟨wr.heap.size, 1, none⟩ = some (.int .i64 x.o) := NB.c 1
      have s2 : W.cell? ⟨wr.heap.size, 2, none⟩ = some (.bool x.l) := NB.c 2
      have s3 : W.cell? ⟨wr.heap.size, 3, none⟩ = some (.int .i64 x.u) := NB.c 3
      have AW : Fz wr W [] := hW ▸ Fz.alloc wr _
      have AV := AW.trans (Fz.alloc W (.cells #[.int .u32 t, .bool x.l, .int .i64 x.o, .int .i64 x.u] 62))
      have OW : Keep ((W.alloc (.cells #[.int .u32 t, .bool x.l, .int .i64 x.o, .int .i64 x.u] 62)).ownsRow w1.heap.size 62 4 (.slice Ao j co) j ((ts.take j).flatMap (encF (fOf M)))) :=
        ⟨own_blockW HQ.out.1 (fun kb e => let ⟨_, _, hk⟩ := own_ty HQ.out.1 e; AV.block kb hk.lt (by simp))⟩
      have KV := Keep.mk AV
      have KX := Keep.mk hx
      have HT := Keep.mk htj
      have hjb : j ≤ 1000 := by have := H.out.2.2.2.1; have := HK.out; omega
      have hlti : ((j : Nat) : Int) < (ts.length : Int) := by omega
      have SZ : Keep (w1.heap.size ≤ (W.alloc (.cells #[.int .u32 t, .bool x.l, .int .i64 x.o, .int .i64 x.u] 62)).heap.size ∧ j ≤ 1000000) := ⟨Nat.le_trans HQ.out.2.size AV.size, by have := H.out.2.2.2.1; have := HK.out; omega⟩
      clear cc hcs hx htj NB AW AV ht
      go_wp2_with (first
        | (refine append_more rfl (.tmp 13) (.tmp 23) 56 62 rfl Tryz.underlying56 infoF rfl (by omega) (by omega) (.slice Ao j co) rfl W.heap.size [.int .u32 t, .bool x.l, .int .i64 x.o, .int .i64 x.u] rfl rfl (fun y u hu => ((Bk.new W #[.int .u32 t, .bool x.l, .int .i64 x.o, .int .i64 x.u] 62).c y).trans (by simpa using hu)) (by simp) (by simp [Value.oneCell']) w1.heap.size j _ OW.out SZ.out.1 SZ.out.2 ?_
           intro v' w3 ho3 hg3 hv3
           obtain ⟨A3, n3, c3, rfl⟩ : ∃ A n c, v' = .slice A n c := let ⟨A, c, h, _⟩ := own_slice ho3; ⟨A, _, c, h⟩
           have HO3 := Keep.mk ho3
           have X3 := Keep.mk (Fz.grown hg3)
           clear ho3 hg3 hv3)
        | fail)
      go_roundw
      case rel =>
        refine ⟨j + 1, by omega, by go_num, ⟨?_, ?_⟩⟩
        · have ht : ts.take (j + 1) = ts.take j ++ [t] := by rw [List.take_add_one, HT.out]; rfl
          rw [ht, List.flatMap_append]
          have h3 := HO3.out
          simp only [List.flatMap_cons, List.flatMap_nil, List.append_nil, encF, KX.out]
          exact h3
        · have F := KV.out.trans X3.out
          refine HQ.out.2.trans (F.toBelow HQ.out.2.size fun y hy => ?_)
          simp only [List.nil_append] at hy
          exact (own_ty OW.out (by simpa using hy)).1
      case measure => simp [intOf] <;> omega
    · obtain rfl : j = ts.length := by omega
      go_wp2_with fail
      go_ret
      refine ⟨_, ts, rfl, H.out.1, H.out.2.1, H.out.2.2.1, H.out.2.2.2.1, ?_, H.out.2.2.2.2.trans (HQ.out.2.mono H.out.2.2.2.2.size)⟩
      have := own_low HQ.out.1 H.out.2.2.2.2.size
      rwa [List.take_length] at this
end
end Go.Proofs.YtkehpgjflofdjaaGreatDoor
/-
  The walk of HostKeys.
-/
namespace Go.Proofs.YtkehpgjflofdjaaGreatDoor
open Go.RowKit

set_option maxRecDepth 100000 in
set_option maxHeartbeats 1600000 in
theorem apart_any {w : World} {A : Option Addr} {c : Nat} (f : Int → En) (ts : List Int) (hr : Rd w w.heap.size 4 (encF f) A ts) (hs : ts.Pairwise (· < ·)) (hn : ts.length ≤ 1000) :
    Calls Tryz.prog 29 #[.slice A ts.length c] w fun e w' => e = .returned (.bool true) ∧ ∃ q, w' = w.drewN q := by
  have HR := Lib.hid hr
  have HS := Keep.mk hs
  clear hr hs
  go_enter Tryz.func29, Tryz.ntmps29
  go_wp2_with fail
  go_loopw [3] (fun i wr => ∃ j : Nat, (j + 1 ≤ ts.length ∨ j = 0) ∧ i = .int .i64 (j + 1 : Nat) ∧ Keep (∃ q, wr = w.drewN q)) (fun i _ => ts.length - (intOf i).toNat)
  case atStart => exact ⟨0, .inr rfl, rfl, ⟨0, rfl⟩⟩
  case round =>
    obtain ⟨j, hj, rfl, HW⟩ := hrel
    obtain ⟨q0, hq0⟩ := HW.out
    rcases Nat.lt_or_ge (j + 1) ts.length with hlt | hge
    · obtain ⟨a, ha⟩ : ∃ a, ts[j]'(by omega) = a := ⟨_, rfl⟩
      obtain ⟨b, hb⟩ : ∃ b, ts[j + 1] = b := ⟨_, rfl⟩
      have hab : a < b := by
        rw [← ha, ← hb]
        exact (List.pairwise_iff_getElem.1 HS.out) j (j + 1) (by omega) hlt (by omega)
      have hja : ts[j]? = some a := by rw [List.getElem?_eq_getElem (by omega), ha]
      have hjb : ts[j + 1]? = some b := by rw [List.getElem?_eq_getElem hlt, hb]
      obtain ⟨g, off, rfl, hg, hcs⟩ := HR.out (List.ne_nil_of_length_pos (by omega))
      have r0 : wr.cell? ⟨g, off + j * 4, none⟩ = some (.int .u32 a) := by rw [hq0]; exact hcs j a hja 0 _ rfl
      have r1 : wr.cell? ⟨g, off + (j + 1) * 4, none⟩ = some (.int .u32 b) := by rw [hq0]; exact hcs (j + 1) b hjb 0 _ rfl
      have hlti : ((j + 1 : Nat) : Int) < (ts.length : Int) := by omega
      have hlt0 : ((j : Nat) : Int) < (ts.length : Int) := by omega
      have q1 : IntKind.i64.wrap (((j + 1 : Nat) : Int) - 1) = (j : Int) := by rw [IntWalk.i64_in _ (by omega)]; omega
      have hd : decide (b ≤ a) = false := by simp; omega
      have hjn : j + 1 ≤ 1000 := by omega
      have HQ := Keep.mk hq0
      clear ha hb hcs hja hjb hq0 HW
      go_wp2_with fail
      go_quiet (fail)
      go_wp2_with fail
      go_roundw
      case rel => exact ⟨j + 1, .inl (by omega), by go_num, ⟨q0 + nq, by rw [HQ.out]; first | rfl | simp⟩⟩
      case measure => simp [intOf] <;> omega
    · have hnl : ¬ ((j + 1 : Nat) : Int) < (ts.length : Int) := by omega
      go_wp2_with fail
      go_ret
      exact ⟨rfl, q0, by first | exact hq0 | rfl⟩
set_option maxRecDepth 100000 in
set_option maxHeartbeats 1600000 in
theorem live_any {w : World} {A : Option Addr} {c : Nat} (f : Int → En) (ts : List Int) (hr : Rd w w.heap.size 4 (encF f) A ts) (hs : ∀ t ∈ ts, (f t).l = true) (hn : ts.length ≤ 1000) :
    Calls Tryz.prog 30 #[.slice A ts.length c] w fun e w' => e = .returned (.int .i64 ts.length) ∧ w' = w := by
  have HR := Lib.hid hr
  have HS := Lib.hid hs
  clear hr hs
  go_enter Tryz.func30, Tryz.ntmps30
  go_wp2_with fail
  go_loopw [3, 4] (fun n i wr => ∃ j : Nat, j ≤ ts.length ∧ i = .int .i64 j ∧ n = .int .i64 j ∧ wr = w) (fun _ i _ => ts.length - (intOf i).toNat)
  case atStart => exact ⟨0, by omega, rfl, rfl, rfl⟩
  case round =>
    obtain ⟨j, hj, rfl, rfl, rfl⟩ := hrel
    rcases Nat.lt_or_ge j ts.length with hlt | hge
    · obtain ⟨a, ha⟩ : ∃ a, ts[j] = a := ⟨_, rfl⟩
      have hja : ts[j]? = some a := by rw [List.getElem?_eq_getElem (by omega), ha]
      obtain ⟨g, off, rfl, hg, hcs⟩ := HR.out (List.ne_nil_of_length_pos (by omega))
      have r0 : wr.cell? ⟨g, off + j * 4 + 1, none⟩ = some (.bool true) := by rw [hcs j a hja 1 _ rfl, HS.out a (List.mem_of_getElem? hja)]
      have hlti : ((j : Nat) : Int) < (ts.length : Int) := by omega
      have hjn : j ≤ 1000 := by omega
      clear ha hcs hja
      go_wp2_with fail
      go_roundw
      case rel => exact ⟨j + 1, by omega, by go_num, by go_num, by first | rfl | trivial⟩
      case measure => simp [intOf] <;> omega
    · obtain rfl : j = ts.length := by omega
      go_wp2_with fail
      go_ret
      exact ⟨rfl, rfl⟩
theorem Tb.off {w : World} {lo tb m nb : Nat} {most : Int} {M : Int → Option En} {k b : Nat} {arr : Array Value} {ty : TypeId} (h : Tb w lo tb m nb most M k) (hb : Bk w b arr ty) : m ≠ b := fun e => by
  subst e
  obtain ⟨D, ⟨es, clock, he, _⟩, _⟩ := h.mp
  rw [hb.eq] at he
  cases he
theorem Hc.quiet {lo : Nat} {w w' : World} {hb tb m nbt : Nat} {seed : Int} {ports lv : Value} {made tick : Int} {outv : Value} {M : Int → Option En} {k : Nat} {l : List (Nat × Nat)} {R : List SegR} (h : Hc lo w hb tb m nbt seed ports lv made tick outv M k l R) (hB : Below w.heap.size w w') : Hc lo w' hb tb m nbt seed ports lv made tick outv M k l R :=
  have F := Fz.below hB (Nat.le_refl _)
  h.step (F.mono (by simp)) (h.hst.fz F (by simp) (by simp) (by simp) (by simp))
/-- The host of the law, behind some dials. -/
structure Kst (lo : Nat) (w : World) (hb tb m : Nat) (seed : Int) (k : Nat) : Prop where
  ex : ∃ (lv outv : Value) (M : Int → Option En) (l : List (Nat × Nat)) (R : List SegR), Hc lo w hb tb m k seed (.slice none 0 0) lv k 0 outv M k l R ∧ l.length = k ∧ R.length = k ∧ ∀ t x, M t = some x → x.l = true
  le : k ≤ 4
theorem Kst.size {lo : Nat} {w : World} {hb tb m : Nat} {seed : Int} {k : Nat} (h : Kst lo w hb tb m seed k) : lo ≤ w.heap.size := let ⟨_, _, _, _, _, hc, _⟩ := h.ex; hc.lo.2
theorem Kst.next {lo : Nat} {w w' : World} {hb tb m : Nat} {seed : Int} {k : Nat} {M : Int → Option En} {l : List (Nat × Nat)} {R : List SegR} {x : Int} (hk : k ≤ 4) (hk4 : k ≠ 4) (hl : l.length = k) (hR : R.length = k) (hM : ∀ t x, M t = some x → x.l = true)
    (h : Dialed lo w w' hb tb m k seed (.slice none 0 0) k 0 M k l R x) : Kst lo w' hb tb m seed (k + 1) := by
  obtain ⟨lv, outv, sk, c, go, s, hc, _⟩ := h.ex
  refine ⟨⟨lv, outv, _, _, _, by rw [show ((k + 1 : Nat) : Int) = (k : Int) + 1 by push_cast; rfl]; exact hc, by simp [hl], by simp [hR], fun t y hy => ?_⟩, by omega⟩
  by_cases e : t = tokN x
  · subst e
    rw [setT_same] at hy
    cases hy
    rfl
  · rw [setT_other _ _ e] at hy
    exact hM t y hy
set_option maxRecDepth 100000 in
set_option maxHeartbeats 3200000 in
theorem kconnect_any {lo : Nat} {w : World} {hb tb m : Nat} {seed : Int} {k : Nat} (h : Kst lo w hb tb m seed k) :
    Calls Tryz.prog 10 #[.pointer (some ⟨hb, 0, none⟩), .int .i64 0, .int .i64 1, .int .i64 80] w fun e w' => Below lo w w' ∧ Kept w w' ∧
      ((k = 4 ∧ e = .returned (.tuple #[.int .i64 0, .int .i64 15]) ∧ Kst lo w' hb tb m seed k) ∨ (k ≠ 4 ∧ e = .returned (.tuple #[.int .i64 0, .int .i64 6]) ∧ Kst lo w' hb tb m seed k) ∨ (∃ n, k ≠ 4 ∧ e = .returned (.tuple #[.int .i64 n, .int .i64 0]) ∧ Kst lo w' hb tb m seed (k + 1))) := by
  obtain ⟨lv, outv, M, l, R, hc, hl, hR, hM⟩ := h.ex
  have hk := h.le
  refine (hconnect_any hc (by omega) (by omega) (by omega) (by omega) (by omega) (by omega) (by omega)).mono ?_
  rintro e w' (⟨er, her, rfl, hc', hb', hkp⟩ | ⟨x, h4, _, rfl, hd⟩)
  · rcases her with ⟨rfl, h4⟩ | ⟨rfl, h4, _⟩
    · exact ⟨hb', hkp, .inl ⟨h4, rfl, ⟨lv, outv, M, l, R, hc', hl, hR, hM⟩, hk⟩⟩
    · exact ⟨hb', hkp, .inr (.inl ⟨h4, rfl, ⟨lv, outv, M, l, R, hc', hl, hR, hM⟩, hk⟩)⟩
  · exact ⟨hd.below, hd.kept, .inr (.inr ⟨_, h4, rfl, Kst.next hk h4 hl hR hM hd⟩)⟩
set_option maxRecDepth 100000 in
set_option maxHeartbeats 6400000 in
theorem hostKeys_walk (a : Int) (A : Option Addr) (n c : Nat) (l : List Int) (w : World) (_a0 : 0 ≤ a) (_a1 : a < 18446744073709551616) (ha : Arg w 1 encU A n c l) (hall : ∀ z ∈ l, 0 ≤ z ∧ z < 18446744073709551616) :
    Calls Tryz.prog 4 #[.int .u64 a, .slice A n c] w fun e w' => e = .returned (.bool true) ∧ Below w.heap.size w w' := by
  clear _a0 _a1
  have WK := Keep.mk (hwakes_any w)
  have HA := Keep.mk ha
  have HW := Keep.mk hall
  clear ha hall
  by_cases h3 : 3 < n
  · have h3' : (3 : Int) < (n : Int) := by omega
    clear h3
    go_enter Tryz.func4, Tryz.ntmps4
    go_wp2_with (first
      | (go_at_call 6
         go_loud (refine WK.out.mono ?_; rintro e w1 ⟨rfl, hb1⟩)
         have B1 := Keep.mk hb1
         clear hb1)
      | fail)
    go_ret
    exact ⟨rfl, B1.out⟩
  have h3' : ¬ (3 : Int) < (n : Int) := by omega
  have HN : Keep (n ≤ 3) := ⟨by omega⟩
  clear h3
  go_enter Tryz.func4, Tryz.ntmps4
  go_wp2_with (first
    | (go_at_call 6
       go_loud (refine WK.out.mono ?_; rintro e w1 ⟨rfl, hb1⟩)
       have B1 := Keep.mk hb1
       have NH := Keep.mk (hnew_any a w1)
       clear hb1)
    | (go_at_call 27
       go_loud (refine NH.out.mono ?_; rintro e w2 ⟨hb, tb, m, rfl, h1, h2, h3, h4, h5⟩)
       have B2 := Keep.mk (And.intro h1 h5)
       have T2 := Keep.mk h4
       have NE2 : Keep (hb ≠ m ∧ hb ≠ tb) := ⟨h2, h3.ne_ty h4.bk (by decide)⟩
       have P2 := Keep.mk (hprime_any (lo := w1.heap.size) [] l h3 (World.ownsRow_nil _ _ _ _) (HA.out.below (B1.out.trans (h5.mono B1.out.size))) h5.size (by have := HN.out; simp; omega))
       clear h1 h2 h3 h4 h5)
    | (go_at_call 7
       go_loud (refine P3.out.mono ?_; rintro e w4 ⟨rfl, pv4, h1, h2, f4⟩)
       have X4 := Keep.mk f4
       have H4 := Keep.mk h1
       have O4 := Keep.mk h2
       clear h1 h2 f4 P3)
    | (go_at_call 7
       go_loud (refine P2.out.mono ?_; rintro e w3 ⟨rfl, pv3, h1, h2, f3⟩)
       have AB : Below w2.heap.size w2 w3 → True := fun _ => trivial
       have X3 : Keep (Fz w2 w3 [hb]) := ⟨f3.mono (by simp [Value.ownBlock])⟩
       have HAR := Keep.mk (HA.out.below (B1.out.trans (B2.out.2.mono B1.out.size)))
       have H3 := Keep.mk h1
       have O3 := Keep.mk h2
       have A3 : Keep (Arg w3 1 encU A n c l) := ⟨HA.out.below ((B1.out.trans (B2.out.2.mono B1.out.size)).trans (X3.out.toBelow (Nat.le_trans B1.out.size B2.out.2.size) (by simp; exact Nat.le_trans B1.out.size B2.out.1)))⟩
       have P3 := Keep.mk (hprime_any (lo := w1.heap.size) ([] ++ l) l H3.out O3.out A3.out (Nat.le_trans B2.out.2.size X3.out.size) (by have := HN.out; have := HA.out.hlen; simp; omega))
       clear h1 h2 f3 AB)
    | fail)
  have T4 : Tb w4 w1.heap.size tb m 0 4 (fun _ => none) 0 := by
    have t3 := T2.out.fz X3.out (by simp; exact fun e => NE2.out.2 e.symm) (by simp; exact fun e => NE2.out.1 e.symm)
    refine t3.fz X4.out (fun hm => ?_) (fun hm => ?_)
    · rcases List.mem_cons.1 hm with e | hm
      · exact NE2.out.2 e.symm
      · exact NIV O3.out t3.bk (by decide) hm
    · rcases List.mem_cons.1 hm with e | hm
      · exact NE2.out.1 e.symm
      · obtain ⟨_, cur, hk⟩ := own_ty O3.out (by simpa using hm)
        exact t3.off hk rfl
  have B04 : Below w.heap.size w w4 := by
    refine (B1.out.trans (B2.out.2.mono B1.out.size)).trans ((X3.out.trans X4.out).toBelow (Nat.le_trans B1.out.size B2.out.2.size) fun y hy => ?_)
    rcases List.mem_append.1 hy with h | h
    · simp only [List.mem_cons, List.not_mem_nil, or_false] at h
      subst h
      exact Nat.le_trans B1.out.size B2.out.1
    rcases List.mem_cons.1 h with rfl | h
    · exact Nat.le_trans B1.out.size B2.out.1
    · exact Nat.le_trans B1.out.size (own_ty O3.out (by simpa using h)).1
  have K4 : Keep (Kst w1.heap.size w4 hb tb m a 0) := ⟨⟨_, _, _, [], [], ⟨⟨⟨0, pv4, _, H4.out, Prm.own O4.out (by intro z hz; simp at hz; exact HW.out z hz)⟩, T4⟩, Sk.nil _ _, ⟨fun _ => #[], fun i s c hi => by simp at hi⟩, by simp, World.ownsRow_nil _ _ _ _, B2.out.1, Nat.le_trans (Nat.le_trans B2.out.2.size X3.out.size) X4.out.size⟩, rfl, rfl, fun t x h => by cases h⟩, by omega⟩
  have KB4 := Keep.mk B04
  have L1 : Keep (w.heap.size ≤ w1.heap.size) := ⟨B1.out.size⟩
  clear T4 B04
  go_loopw [6, 25] (fun n i wr => ∃ j k : Nat, j ≤ 8 ∧ k ≤ 4 ∧ i = .int .i64 j ∧ n = .int .i64 k ∧ Keep (Kst w1.heap.size wr hb tb m a k ∧ Below w1.heap.size w4 wr)) (fun _ i _ => 8 - (intOf i).toNat)
  case atStart => exact ⟨0, 0, by omega, by omega, rfl, rfl, ⟨K4.out, Below.refl _ _⟩⟩
  case round =>
    obtain ⟨j, k, hj, hk, rfl, rfl, HQ⟩ := hrel
    rcases Nat.lt_or_ge j 8 with hlt | hge
    · have CN := Keep.mk (kconnect_any HQ.out.1)
      have hji : ((j : Nat) : Int) < 8 := by omega
      go_wp2_with (first
        | (go_at_call 10
           go_loud (refine CN.out.mono ?_; rintro e w5 ⟨b5, _, h5⟩)
           have B5 := Keep.mk (HQ.out.2.trans b5)
           clear b5
           rcases h5 with ⟨_, rfl, k5⟩ | ⟨_, rfl, k5⟩ | ⟨n5, hk4, rfl, k5⟩)
        | fail)
      · have K5 := Keep.mk k5
        go_roundw
        case rel => exact ⟨j + 1, k, by omega, by omega, by go_num, by first | rfl | go_num | simp_all, ⟨K5.out, B5.out⟩⟩
        case measure => simp [intOf] <;> omega
      · have K5 := Keep.mk k5
        go_roundw
        case rel => exact ⟨j + 1, k, by omega, by omega, by go_num, by first | rfl | go_num | simp_all, ⟨K5.out, B5.out⟩⟩
        case measure => simp [intOf] <;> omega
      · have K5 := Keep.mk k5
        go_roundw
        case rel => exact ⟨j + 1, k + 1, by omega, by omega, by go_num, by go_num, ⟨K5.out, B5.out⟩⟩
        case measure => simp [intOf] <;> omega
    · obtain rfl : j = 8 := by omega
      obtain ⟨lv, outv, M, l', R, hc, hl', hR', hM⟩ := HQ.out.1.ex
      obtain ⟨dr, pv, ps, hB, _⟩ := hc.hst.ex
      have EN := Keep.mk (hentries_any hB hc.hst.tab (by omega))
      have HC := Keep.mk hc
      have HM := Lib.hid hM
      have HL := Keep.mk (And.intro hl' hR')
      have HK : Keep (k ≤ 4) := ⟨hk⟩
      clear hB hc hM hl' hR'
      go_wp2_with (first
        | (go_at_call 28
           go_loud (refine EN.out.mono ?_; rintro e w6 ⟨v, ts, rfl, h1, h2, h3, h4, h5, h6⟩)
           obtain ⟨Av, cv, rfl, -⟩ := own_slice h5
           have hlen : ts.length = k := HC.out.hst.tab.mp.count h2 h1
           have R6 := Keep.mk h5
           have B6 := Keep.mk h6
           have CN := Keep.mk (kconnect_any (⟨⟨lv, outv, M, l', R, HC.out.quiet h6, HL.out.1, HL.out.2, HM.out⟩, HK.out⟩ : Kst w1.heap.size w6 hb tb m a k))
           have HS : Keep (ts.Pairwise (· < ·) ∧ (∀ t ∈ ts, (fOf M t).l = true) ∧ ts.length = k) := ⟨(h3.and h2).imp (fun h => by have h1 := h.1; have h2 := h.2; omega), fun t ht => by
             obtain ⟨y, hy⟩ := Option.isSome_iff_exists.1 ((h1 t).1 ht)
             show ((M t).getD noEn).l = true
             rw [hy]
             exact HM.out t y hy, hlen⟩
           clear h1 h2 h3 h4 h5 h6 hlen)
        | (go_at_call 10
           go_loud (refine CN.out.mono ?_; rintro e w7 ⟨b7, kp7, h7⟩)
           have R7 : w7.ownsRow wr.heap.size 62 4 (.slice Av ts.length cv) ts.length (ts.flatMap (encF (fOf M))) := own_blockW R6.out (fun kb e => let ⟨_, _, hk⟩ := own_ty R6.out e; (kp7 _ _ _ hk (by decide) (by decide) (by decide) (by decide)).eq.trans hk.eq.symm)
           have RD := Rd.of_own (encF_length (fOf M)) (by decide) R7
           have B7 := Keep.mk ((HQ.out.2.trans (B6.out.mono HQ.out.1.size)).trans b7)
           have AP := Keep.mk (apart_any (c := cv) (fOf M) ts RD HS.out.1 (by have := HS.out.2.2; omega))
           have LV : Keep (∀ q, Calls Tryz.prog 30 #[.slice Av ts.length cv] (w7.drewN q) fun e w' => e = .returned (.int .i64 ts.length) ∧ w' = w7.drewN q) := ⟨fun q => live_any (w := w7.drewN q) (fOf M) ts RD HS.out.2.1 (by have := HS.out.2.2; omega)⟩
           have hkk : ((ts.length : Int) == (k : Int)) = true := by rw [HS.out.2.2]; simp
           have hk4 : (k : Int) ≤ 4 := by omega
           clear b7 kp7 R7 RD CN
           rcases h7 with ⟨hk, rfl, _⟩ | ⟨hk, rfl, _⟩ | ⟨n7, hk, rfl, _⟩
           all_goals
             first
               | (have hk7 : ¬ (k : Int) < 4 := by omega)
               | (have hk7 : (k : Int) < 4 := by omega))
        | (go_at_call 29
           go_loud (refine AP.out.mono ?_; rintro e X ⟨rfl, q, hX⟩)
           rw [hX]
           clear hX)
        | (go_at_call 30
           go_loud (refine (LV.out _).mono ?_; rintro e X ⟨rfl, hX⟩)
           rw [hX]
           clear hX)
        | fail)
      all_goals
        go_ret
        refine ⟨?_, by first | exact KB4.out.trans (B7.out.mono L1.out) | exact (KB4.out.trans (B7.out.mono L1.out)).trans ((below_dn w7 _).mono (KB4.out.trans (B7.out.mono L1.out)).size)⟩
        first
          | rfl
          | (exfalso; have := HS.out.2.2; omega)
          | simp
end Go.Proofs.YtkehpgjflofdjaaGreatDoor
