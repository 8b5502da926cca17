/-
  Layer 4: the reference's Of.
-/
import Derived.Deep.DeepMust
import Derived.Test.YtkcmemhoabadaaaDoorHmB
import Derived.Test.YtkcmemhoabadaaaDoorRefE
namespace Go.Proofs.YtkcmemhoabadaaaDoor
open Go.RowKit

/-- Two rows of the call's own lie apart. -/
def Apart2 (a b : Value) : Prop := (a.ownBlock = none ∧ b.ownBlock = none) ∨ a.ownBlock ≠ b.ownBlock
theorem Apart2.sym {a b : Value} (h : Apart2 a b) : Apart2 b a := h.elim (fun ⟨x, y⟩ => .inl ⟨y, x⟩) (fun x => .inr (Ne.symm x))
theorem Apart2.free {a b : Value} (h : Apart2 a b) : b.ownBlock = none ∨ b.ownBlock ≠ a.ownBlock := h.elim (fun ⟨_, y⟩ => .inl y) (fun x => .inr (Ne.symm x))
/-- One of them grows. -/
theorem Apart2.grow {a b a' : Value} {w : World} {base n : Nat} {e : TypeId} {xs : List Value} {sz : Nat} (h : Apart2 a b) (hb : w.ownsRow base e sz b n xs) (ha : a'.ownBlock = a.ownBlock ∨ a'.ownBlock = some w.heap.size) : Apart2 a' b := by
  rcases ha with ha | ha
  · rcases h with ⟨x, y⟩ | x
    · exact .inl ⟨ha.trans x, y⟩
    · exact .inr (by rw [ha]; exact x)
  · refine .inr fun e => ?_
    have := (hb.lt _ (e.symm.trans ha)).2
    omega

/-- The same append with what it leaves of another row. -/
theorem wpList_append_bytes2 {ops : Array Oper} {rest : List Oper} {o : Oper} {a : Act} {Q : Exit → Act → World → Prop} {w : World} (hgd : o.guard = none) (s x : Operand) (t : TypeId)
    (ho : o.op = .call { callee := .builtin .append, args := #[s, x], argTypes := #[t, t] }) (ht : Tryd.prog.underlying t = some (.slice 5))
    (base : Nat) (v : Value) (n : Nat) (xs : List Int) (hs : a.eval s = v) (hown : w.ownsRow base 5 1 v n (xs.flatMap encB))
    (A : Option Addr) (k c : Nat) (ws : List Int) (hx : a.eval x = .slice A k c) (hA : Arg w 1 encB A k c ws)
    (hn : n ≤ 1000000) (hk2 : k ≤ 1000000) (hbase : base ≤ w.heap.size)
    (u : Value) (m : Nat) (ys : List Int) (hu : w.ownsRow base 5 1 u m (ys.flatMap encB)) (hap : Apart2 v u) (w0 : World) (hb : Below base w0 w)
    (h : ∀ v' w', w'.ownsRow base 5 1 v' (n + k) ((xs ++ ws).flatMap encB) → w'.ownsRow base 5 1 u m (ys.flatMap encB) → Apart2 v' u → Below base w0 w' → wpList Tryd.prog ops Q rest (a.put o.dst v') w') :
    wpList Tryd.prog ops Q (o :: rest) a w := by
  obtain ⟨i0, hi, hz0, hz1, hz2⟩ := info_parts infoB
  refine wpList_append_rd hgd s x t ho base 5 i0 (.int .u8 0) 1 1 ht hi hz0 hz1 hz2 rfl (by decide) v n _ hs hown A k c _ encB ws hx hA.hnil hA.hlen encB_length hA.rd encBOne (by unfold maxLen; omega) (by omega) hbase ?_
  intro v' w' h1 h2 h3
  exact h v' w' (by rw [List.flatMap_append]; exact h1) (hu.kept h2 hap.free) (hap.grow hu h3) (hb.grown h2 hbase fun j e => (hown.lt j e).1)

/-- An append of bytes that came. -/
theorem wpList_append_came {ops : Array Oper} {rest : List Oper} {o : Oper} {a : Act} {Q : Exit → Act → World → Prop} {w : World} (hgd : o.guard = none) (s x : Operand) (t : TypeId)
    (ho : o.op = .call { callee := .builtin .append, args := #[s, x], argTypes := #[t, t] }) (ht : Tryd.prog.underlying t = some (.slice 5))
    (base : Nat) (v : Value) (n : Nat) (xs : List Int) (hs : a.eval s = v) (hown : w.ownsRow base 5 1 v n (xs.flatMap encB))
    (A : Option Addr) (k c : Nat) (ws : List Int) (hx : a.eval x = .slice A k c) (hA : Arg w 1 encB A k c ws)
    (hn : n ≤ 1000000) (hk2 : k ≤ 1000000) (hbase : base ≤ w.heap.size) (w0 : World) (hb : Below base w0 w)
    (h : ∀ v' w', w'.ownsRow base 5 1 v' (n + k) ((xs ++ ws).flatMap encB) → Below base w0 w' → wpList Tryd.prog ops Q rest (a.put o.dst v') w') :
    wpList Tryd.prog ops Q (o :: rest) a w := by
  obtain ⟨i0, hi, hz0, hz1, hz2⟩ := info_parts infoB
  refine wpList_append_rd hgd s x t ho base 5 i0 (.int .u8 0) 1 1 ht hi hz0 hz1 hz2 rfl (by decide) v n _ hs hown A k c _ encB ws hx hA.hnil hA.hlen encB_length hA.rd encBOne (by unfold maxLen; omega) (by omega) hbase ?_
  intro v' w' h1 h2 h3
  exact h v' w' (by rw [List.flatMap_append]; exact h1) (hb.grown h2 hbase fun j e => (hown.lt j e).1)

set_option maxRecDepth 100000 in
set_option maxHeartbeats 4000000 in
/-- What stands behind the key's making: the same on both ways. -/
theorem refHm_any (A : Option Addr) (n c : Nat) (l : List Int) (B : Option Addr) (m d : Nat) (t : List Int) (w : World) (ha : Arg w 1 encB A n c l) (hl : ∀ z ∈ l, 0 ≤ z ∧ z ≤ 255) (hn : n ≤ 50000) (hb : Arg w 1 encB B m d t) (ht : ∀ z ∈ t, 0 ≤ z ∧ z ≤ 255) (hm : m ≤ 50000) :
    Calls Tryd.prog 24 #[.slice A n c, .slice B m d] w fun e w' => ∃ A' c', e = .returned (.slice A' 32 c') ∧ Arg w' 1 encB A' 32 c' (hmB l t) ∧ Below w.heap.size w w' := by
  obtain ⟨i0, hi, hz0, hz1, hz2⟩ := info_parts infoB
  obtain ⟨K0, hK0⟩ : ∃ K0, keyB l = K0 := ⟨_, rfl⟩
  have HK0 := Keep.mk hK0
  have hK0l : K0.length ≤ 64 := by
    rw [← hK0, keyB]
    split
    · rw [digB_length]; omega
    · omega
  have HK0l := Keep.mk hK0l
  have HaL := Keep.mk ha
  have HaT := Keep.mk hb
  have HTb := Lib.hid ht
  have HLb := Lib.hid hl
  have HLl := Keep.mk ha.hlen
  have HTl := Keep.mk hb.hlen
  clear ha hb ht hl hK0
  by_cases h64 : n ≤ 64
  all_goals
    go_enter Tryd.func24, Tryd.ntmps24
    go_wp2_with (first
      | (go_at_call 16; refine (refOf_any A n c l w HaL.out HLb.out (by omega)).mono ?_; rintro e w1 ⟨A1, c1, rfl, ha1, hb1⟩; have HA1 := Keep.mk ha1; have HB1 := Keep.mk hb1; clear ha1 hb1)
      | (refine wpList_append_rd rfl (.tmp 16) (.tmp 17) 22 rfl w.heap.size 5 i0 (.int .u8 0) 1 1 Tryd.underlying22 hi hz0 hz1 hz2 rfl (by decide) (.slice none 0 0) 0 [] rfl (World.ownsRow_nil _ _ _ _) A n c _ encB l rfl HaL.out.hnil HLl.out encB_length HaL.out.rd encBOne (by simp only [maxLen]; omega) (by omega) (Nat.le_refl _) ?_
         intro v2 w2 hown2 hgr2 hat2
         have HB2 := Keep.mk ((Below.refl w.heap.size w).grown hgr2 (Nat.le_refl _) (fun j e => (by simp [Value.ownBlock] at e)))
         have HO2 : Keep (w2.ownsRow w.heap.size 5 1 v2 K0.length (K0.flatMap encB)) := ⟨by
           have hk : K0 = l := by rw [← HK0.out, keyB, if_neg (by rw [HLl.out]; omega)]
           rw [List.nil_append, Nat.zero_add] at hown2
           rw [hk, HLl.out]; exact hown2⟩
         clear hgr2 hat2 hown2)
      | (refine wpList_append_rd rfl (.tmp 12) (.tmp 14) 22 rfl w.heap.size 5 i0 (.int .u8 0) 1 1 Tryd.underlying22 hi hz0 hz1 hz2 rfl (by decide) (.slice none 0 0) 0 [] rfl (World.ownsRow_nil _ _ _ _) A1 32 c1 _ encB (digB l) rfl HA1.out.hnil HA1.out.hlen encB_length HA1.out.rd encBOne (by simp only [maxLen]; omega) (by omega) HB1.out.size ?_
         intro v2 w2 hown2 hgr2 hat2
         have HB2 := Keep.mk (HB1.out.grown hgr2 HB1.out.size (fun j e => (by simp [Value.ownBlock] at e)))
         have HO2 : Keep (w2.ownsRow w.heap.size 5 1 v2 K0.length (K0.flatMap encB)) := ⟨by
           have hk : K0 = digB l := by rw [← HK0.out, keyB, if_pos (by rw [HLl.out]; omega)]
           rw [List.nil_append, Nat.zero_add] at hown2
           rw [hk, digB_length]; exact hown2⟩
         clear hgr2 hat2 hown2)
      | fail)
    go_loopw [5] (fun v wr => ∃ (j T : Nat), Keep (T = K0.length + j) ∧ T ≤ 64 ∧ wr.ownsRow w.heap.size 5 1 v T ((K0 ++ List.replicate j 0).flatMap encB) ∧ Below w.heap.size w wr) (fun v _ => match v with | .slice _ n _ => 64 - n | _ => 0)
    case atStart => exact ⟨0, K0.length, ⟨rfl⟩, hK0l, by simpa using HO2.out, HB2.out⟩
    case round =>
      obtain ⟨j, T, hT, hT64, hown, hb⟩ := hrel
      obtain ⟨Av, cv, rfl, hcv⟩ := own_slice hown
      have HO := Lib.hid hown
      have HB := Lib.hid hb
      have hbs := hb.size
      clear hown hb
      by_cases hlt : T < 64
      · go_wp2_with (first
          | (refine wpList_append_bytes rfl (.tmp 22) (.tmp 23) 22 rfl Tryd.underlying22 w.heap.size _ T _ rfl (HO.out.alloc _) wr.heap.size 1 [0] rfl 5 (heap_alloc_new _ _) rfl (by omega) (by omega) (by simp; omega) ?_; intro v4 w4 hown4 hgr4 hat4; have hb4 : Below w.heap.size w w4 := (HB.out.alloc hbs _).grown hgr4 (by simp; omega) (fun j e => (HO.out.lt j e).1); have HO4 := Lib.hid hown4; obtain ⟨A4, c4, rfl, _⟩ := own_slice hown4; clear hgr4 hat4 hown4)
          | fail)
        go_roundw
        case rel =>
          refine ⟨j + 1, T + 1, ⟨by have := hT.out; omega⟩, by omega, ?_, hb4⟩
          have h := HO4.out
          rw [List.replicate_succ', ← List.append_assoc]
          exact h
        case measure => show 64 - (T + 1) < 64 - T; omega
      · have hge : 64 ≤ T := by omega
        have hK : K0 ++ List.replicate j 0 = key64 K0 := by rw [key64, show j = 64 - K0.length by have := hT.out; omega]
        have hX54 : Keep (xorB K0 54 = (key64 K0).map (bx · 54)) := ⟨rfl⟩
        have hX92 : Keep (xorB K0 92 = (key64 K0).map (bx · 92)) := ⟨rfl⟩
        have hKl : (key64 K0).length = 64 := key64_length K0 HK0l.out
        have hown := HO.out
        rw [hK] at hown
        have ha5 : Arg wr 1 encB Av T cv (key64 K0) := by
          obtain ⟨A', c', e, h⟩ := Arg.of_own (by decide) encB_length hown
          cases e
          exact h
        have HA5 := Keep.mk ha5
        generalize key64 K0 = K at *
        have HKl := Keep.mk hKl
        have HT5 := Keep.mk (HaT.out.below HB.out)
        clear hK hKl hown ha5 HO HO2 HB2
        obtain ⟨w5, rfl⟩ : ∃ w5 : World, w5 = wr := ⟨_, rfl⟩
        go_wp2_with fail
        go_loopw [6, 7, 8] (fun v u i wr => ∃ q : Nat, q ≤ 64 ∧ i = .int .i64 q ∧ wr.ownsRow w5.heap.size 5 1 v q (((K.take q).map (bx · 54)).flatMap encB) ∧ wr.ownsRow w5.heap.size 5 1 u q (((K.take q).map (bx · 92)).flatMap encB) ∧ Apart2 v u ∧ Below w5.heap.size w5 wr) (fun _ _ i _ => 64 - (intOf i).toNat)
        case atStart => exact ⟨0, by omega, rfl, World.ownsRow_nil _ _ _ _, World.ownsRow_nil _ _ _ _, .inl ⟨rfl, rfl⟩, Below.refl _ _⟩
        case round =>
          obtain ⟨q, hq, rfl, hov, hou, hap, hb⟩ := hrel
          by_cases hlt2 : q < 64
          · obtain ⟨bk, ok, rfl, hbk, hck⟩ := HA5.out.rd.byte (List.ne_nil_of_length_pos (by rw [HKl.out]; omega))
            have c0 := (hb.cell (p := ⟨bk, ok + q, none⟩) hbk).trans (hck q (by rw [HKl.out]; exact hlt2))
            obtain ⟨z, hz⟩ : ∃ z, K[q]'(by rw [HKl.out]; exact hlt2) = z := ⟨_, rfl⟩
            have hs54 : (K.take (q + 1)).map (bx · 54) = (K.take q).map (bx · 54) ++ [bx z 54] := by rw [List.take_succ_eq_append_getElem (by rw [HKl.out]; exact hlt2), List.map_append, hz]; rfl
            have hs92 : (K.take (q + 1)).map (bx · 92) = (K.take q).map (bx · 92) ++ [bx z 92] := by rw [List.take_succ_eq_append_getElem (by rw [HKl.out]; exact hlt2), List.map_append, hz]; rfl
            rw [hz] at c0
            have H54 := Keep.mk hs54
            have H92 := Keep.mk hs92
            have HOv := Keep.mk hov
            have HOu := Keep.mk hou
            have HAp := Keep.mk hap
            have HB6 := Keep.mk hb
            have hbs6 := hb.size
            have tq : (q : Int) < 64 := by omega
            clear hz hs54 hs92 hov hou hap hb hck
            go_wp2_with (first
              | (refine wpList_append_bytes2 rfl (.tmp 29) (.tmp 35) 22 rfl Tryd.underlying22 w5.heap.size _ q _ rfl (HOv.out.alloc _) _ 1 1 [bx z 54] rfl (Arg.row (l := [bx z 54]) (t := 5) (fr := (0, 0)) (heap_alloc_new wr _) 1 rfl (by decide)) (by omega) (by omega) (by simp; omega) _ q _ (HOu.out.alloc _) HAp.out w5 (HB6.out.alloc hbs6 _) ?_
                 intro v7 w7 hov7 hou7 hap7 hb7
                 have HOv7 := Keep.mk hov7
                 have HOu7 := Keep.mk hou7
                 have HAp7 := Keep.mk hap7
                 have HB7 := Keep.mk hb7
                 have hbs7 := hb7.size
                 have c7 := (hb7.cell (p := ⟨bk, ok + q, none⟩) hbk).trans ((HB6.out.cell (p := ⟨bk, ok + q, none⟩) hbk).symm.trans c0)
                 clear hov7 hou7 hap7 hb7)
              | (refine wpList_append_bytes2 rfl (.tmp 37) (.tmp 43) 22 rfl Tryd.underlying22 w5.heap.size _ q _ rfl (HOu7.out.alloc _) _ 1 1 [bx z 92] rfl (Arg.row (l := [bx z 92]) (t := 5) (fr := (0, 0)) (heap_alloc_new w7 _) 1 rfl (by decide)) (by omega) (by omega) (by simp; omega) _ (q + 1) _ (HOv7.out.alloc _) HAp7.out.sym w5 (HB7.out.alloc hbs7 _) ?_
                 intro u8 w8 hou8 hov8 hap8 hb8
                 have HOv8 := Keep.mk hov8
                 have HOu8 := Keep.mk hou8
                 have HAp8 := Keep.mk hap8
                 have HB8 := Keep.mk hb8
                 clear hov8 hou8 hap8 hb8)
              | fail)
            go_roundw
            case rel =>
              refine ⟨q + 1, by omega, by go_num, ?_, ?_, HAp8.out.sym, HB8.out⟩
              · rw [H54.out]; exact HOv8.out
              · rw [H92.out]; exact HOu8.out
            case measure => simp [intOf] <;> omega
          · have hge2 : 64 ≤ q := by omega
            have hq64 : q = 64 := by omega
            rw [List.take_of_length_le (by rw [HKl.out]; exact hge2)] at hov hou
            rw [← hX54.out] at hov
            rw [← hX92.out] at hou
            have HOv := Keep.mk hov
            have HOu := Keep.mk hou
            have HAp := Keep.mk hap
            have HB6 := Keep.mk hb
            have hbs6 := hb.size
            have HT6 := Keep.mk (HT5.out.below hb)
            clear hov hou hap hb hq64
            go_wp2_with (first
              | (refine wpList_append_bytes2 rfl (.tmp 45) (.tmp 46) 22 rfl Tryd.underlying22 w5.heap.size _ q _ rfl HOv.out B m d t rfl HT6.out (by omega) (by omega) hbs6 _ q _ HOu.out HAp.out w5 HB6.out ?_
                 intro v7 w7 hov7 hou7 hap7 hb7
                 obtain ⟨A7, c7, rfl, ha7⟩ := Arg.of_own (by decide) encB_length hov7
                 have HA7 := Keep.mk ha7
                 have HOu7 := Keep.mk hou7
                 have HB7 := Keep.mk hb7
                 clear hov7 hou7 hap7 hb7 ha7)
              | fail)
            refine (refOf_any A7 (q + m) c7 _ w7 HA7.out (fun z hz => (List.mem_append.1 hz).elim (xorB_byte z) (HTb.out z)) (by omega)).mono ?_
            rintro e w8 ⟨A8, c8, rfl, ha8, hb8⟩
            have HA8 := Keep.mk ha8
            have HO8 := Keep.mk (own_below HOu7.out hb8)
            have HB8 := Keep.mk (HB7.out.trans (hb8.mono HB7.out.size))
            clear ha8 hb8
            go_wp2_with (first
              | (refine wpList_append_came rfl (.tmp 48) (.tmp 50) 22 rfl Tryd.underlying22 w5.heap.size _ q _ rfl HO8.out A8 32 c8 _ rfl HA8.out (by omega) (by omega) HB8.out.size w5 HB8.out ?_
                 intro v9 w9 hown9 hb9
                 obtain ⟨A9, c9, rfl, ha9⟩ := Arg.of_own (by decide) encB_length hown9
                 have HA9 := Keep.mk ha9
                 have HB9 := Keep.mk hb9
                 clear hown9 hb9 ha9)
              | fail)
            refine (refOf_any A9 (q + 32) c9 _ w9 HA9.out (fun z hz => (List.mem_append.1 hz).elim (xorB_byte z) (digB_byte _ z)) (by omega)).mono ?_
            rintro e w10 ⟨A10, c10, rfl, ha10, hb10⟩
            have HA10 := Keep.mk ha10
            have HB10 := Keep.mk (HB.out.trans ((HB9.out.trans (hb10.mono HB9.out.size)).mono HB.out.size))
            clear ha10 hb10
            go_wp2_with fail
            go_ret
            exact ⟨A10, c10, rfl, by rw [hmB, HK0.out]; exact HA10.out, HB10.out⟩
end Go.Proofs.YtkcmemhoabadaaaDoor
