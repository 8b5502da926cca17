/-
  Walks and laws, one behind the other (part 43).
-/
import Derived.Test.YtjpokeakemlffaaGreatDoorS41
import Derived.Test.YtjpokeakemlffaaGreatDoorS42
set_option linter.unusedSimpArgs false
set_option linter.unusedVariables false
/-
  audit.Find; the reference's Begins, All.
-/
namespace Go.Proofs.YtjpokeakemlffaaGreatDoor
open Go.RowKit Go.Maps
section
variable {w w0 : World} {L : List HA} {s h : Int}
set_option maxRecDepth 100000 in
set_option maxHeartbeats 3200000 in
theorem find1_any {b4 b5 : Nat} (x : Int × Int) (r : StR) (H : Sat w (blkA b4 #[.int .i64 s] 3 :: blkA b5 #[.int .i64 h] 3 :: L)) :
    Calls Tryz.prog 20 #[.agg (strC x.1 x.2 r).toArray, .pointer (some ⟨b4, 0, none⟩), .pointer (some ⟨b5, 0, none⟩)] w fun e w' => e = .returned (.bool (decide (x = (s, h)))) ∧ Sat w' (blkA b4 #[.int .i64 s] 3 :: blkA b5 #[.int .i64 h] 3 :: L) := by
  have H1 := H.alloc (strC x.1 x.2 r).toArray 31
  have K1 := Keep.mk H1.tl
  have c4 : (w.alloc (.cells (strC x.1 x.2 r).toArray 31)).cell? ⟨b4, 0, none⟩ = some (.int .i64 s) := (H1.bkAt 1 rfl).c 0
  have c5 : (w.alloc (.cells (strC x.1 x.2 r).toArray 31)).cell? ⟨b5, 0, none⟩ = some (.int .i64 h) := (H1.bkAt 2 rfl).c 0
  obtain ⟨x1, x2⟩ := x
  obtain ⟨p, hp⟩ : ∃ b, (x1 == s) = b := ⟨_, rfl⟩
  obtain ⟨q, hq⟩ : ∃ b, (x2 == h) = b := ⟨_, rfl⟩
  obtain ⟨d, hd⟩ : ∃ b, decide ((x1, x2) = (s, h)) = b := ⟨_, rfl⟩
  have HR : Keep (d = (p && q)) := ⟨by rw [← hd, ← hp, ← hq]; by_cases e : x1 = s <;> by_cases f : x2 = h <;> simp [e, f]⟩
  rw [hd]
  clear H H1 hd
  cases p
  · go_enter Tryz.func20, Tryz.ntmps20
    go_wp2_with fail
    go_ret
    exact ⟨by rw [HR.out]; rfl, K1.out⟩
  · cases q
    · go_enter Tryz.func20, Tryz.ntmps20
      go_wp2_with fail
      go_ret
      exact ⟨by rw [HR.out]; rfl, K1.out⟩
    · go_enter Tryz.func20, Tryz.ntmps20
      go_wp2_with fail
      go_ret
      exact ⟨by rw [HR.out]; rfl, K1.out⟩
def idxN (ts : List (Int × Int)) (n : Int × Int) : Int := if n ∈ ts then ts.idxOf n else -1
set_option maxRecDepth 100000 in
set_option maxHeartbeats 3200000 in
theorem idx_any {b4 b5 : Nat} {A : Option Addr} {c : Nat} (f : Int × Int → StR) (ts : List (Int × Int)) (hl : ts.length ≤ 60) (H : Sat w (rowA 31 8 (.slice A ts.length c) ts.length (ts.flatMap (encS f)) :: blkA b4 #[.int .i64 s] 3 :: blkA b5 #[.int .i64 h] 3 :: L)) :
    Calls Tryz.prog 19 #[.slice A ts.length c, .func (.func 20) #[] #[.pointer (some ⟨b4, 0, none⟩), .pointer (some ⟨b5, 0, none⟩)]] w fun e w' => e = .returned (.int .i64 (idxN ts (s, h))) ∧
      Sat w' (rowA 31 8 (.slice A ts.length c) ts.length (ts.flatMap (encS f)) :: blkA b4 #[.int .i64 s] 3 :: blkA b5 #[.int .i64 h] 3 :: L) := by
  have HS := Keep.mk H
  clear H
  go_enter Tryz.func19, Tryz.ntmps19
  go_wp2_with fail
  go_loopw [8] (fun i wr => ∃ j : Nat, i = .int .i64 j ∧ j ≤ ts.length ∧ Keep (Sat wr (rowA 31 8 (.slice A ts.length c) ts.length (ts.flatMap (encS f)) :: blkA b4 #[.int .i64 s] 3 :: blkA b5 #[.int .i64 h] 3 :: L)) ∧ Keep (∀ n ∈ ts.take j, n ≠ (s, h))) (fun i _ => ts.length - (intOf i).toNat)
  case atStart => exact ⟨0, rfl, Nat.zero_le _, HS, ⟨by simp⟩⟩
  case round =>
    obtain ⟨j, rfl, hj, HQ, HN⟩ := hrel
    clear HS
    rcases Nat.lt_or_ge j ts.length with hlt | hge
    · obtain ⟨x, hx⟩ : ∃ x, ts[j]? = some x := ⟨ts[j], List.getElem?_eq_getElem hlt⟩
      obtain ⟨g, off, rfl, _, hcs⟩ := Rd.of_own (encS_length f) (by decide) HQ.out.own (List.ne_nil_of_length_pos (by omega))
      have cc : ∀ (k : Nat) (u : Value), (encS f x)[k]? = some u → wr.cell? ⟨g, off + j * 8 + k, none⟩ = some u := fun k u hu => hcs j x hx k u hu
      have c0 : wr.cell? ⟨g, off + j * 8, none⟩ = some (.int .i64 x.1) := cc 0 _ rfl
      have c1 : wr.cell? ⟨g, off + j * 8 + 1, none⟩ = some (.int .i64 x.2) := cc 1 _ rfl
      have c2 : wr.cell? ⟨g, off + j * 8 + 2, none⟩ = some (.slice (f x).A1 (f x).n1 (f x).c1) := cc 2 _ rfl
      have c3 : wr.cell? ⟨g, off + j * 8 + 3, none⟩ = some (.slice (f x).A2 (f x).n2 (f x).c2) := cc 3 _ rfl
      have c4 : wr.cell? ⟨g, off + j * 8 + 4, none⟩ = some (.bool (f x).sh) := cc 4 _ rfl
      have c5 : wr.cell? ⟨g, off + j * 8 + 5, none⟩ = some (.bool (f x).cl) := cc 5 _ rfl
      have c6 : wr.cell? ⟨g, off + j * 8 + 6, none⟩ = some (.bool (f x).ov) := cc 6 _ rfl
      have c7 : wr.cell? ⟨g, off + j * 8 + 7, none⟩ = some (.int .i64 (f x).e) := cc 7 _ rfl
      have CL := Keep.mk (find1_any x (f x) HQ.out.tl)
      have CR : Keep (Calls Tryz.prog 20 #[.agg (strC x.1 x.2 (f x)).toArray, .pointer (some ⟨b4, 0, none⟩), .pointer (some ⟨b5, 0, none⟩)] wr fun e w' => e = .returned (.bool (decide (x = (s, h)))) ∧ Sat w' (rowA 31 8 (.slice (some ⟨g, off, none⟩) ts.length c) ts.length (ts.flatMap (encS f)) :: blkA b4 #[.int .i64 s] 3 :: blkA b5 #[.int .i64 h] 3 :: L)) := ⟨by
        have q := find1_any (L := rowA 31 8 (.slice (some ⟨g, off, none⟩) ts.length c) ts.length (ts.flatMap (encS f)) :: L) x (f x) (HQ.out.back 2)
        exact q.mono fun e w' ⟨h1, h2⟩ => ⟨h1, h2.to 2 rfl⟩⟩
      obtain ⟨d, hd⟩ : ∃ b, decide (x = (s, h)) = b := ⟨_, rfl⟩
      rw [hd] at CR
      have HX := Keep.mk (And.intro hx hd)
      have hl60 : ts.length ≤ 60 := hl
      clear CL cc hcs hx hd HQ
      cases d
      · go_wp2_with (first
          | (go_at_call 20
             refine CR.out.mono ?_
             rintro e w2 ⟨rfl, h2⟩
             have K2 := Keep.mk h2
             clear h2)
          | fail)
        go_roundw
        case rel =>
          refine ⟨j + 1, by go_num, hlt, K2, ⟨fun n hn => ?_⟩⟩
          rw [List.take_add_one, HX.out.1] at hn
          rcases List.mem_append.1 hn with h | h
          · exact HN.out n h
          · obtain rfl : n = x := by simpa using h
            exact of_decide_eq_false HX.out.2
        case measure => simp [intOf] <;> omega
      · go_wp2_with (first
          | (go_at_call 20
             refine CR.out.mono ?_
             rintro e w2 ⟨rfl, h2⟩
             have K2 := Keep.mk h2
             clear h2)
          | fail)
        go_ret
        have hxe := of_decide_eq_true HX.out.2
        have hx := HX.out.1
        rw [hxe] at hx
        have hm : (s, h) ∈ ts := List.mem_of_getElem? hx
        have hi : ts.idxOf (s, h) = j := by
          rw [show ts = ts.take j ++ (s, h) :: ts.drop (j + 1) by
            conv => lhs; rw [← List.take_append_drop j ts]
            rw [List.drop_eq_getElem_cons hlt, (List.getElem?_eq_some_iff.1 hx).2]]
          rw [List.idxOf_append, if_neg (fun hc => HN.out _ hc rfl)]
          simp [List.length_take, Nat.min_eq_left hj]
        exact ⟨by unfold idxN; rw [if_pos hm, hi]; rfl, K2.out⟩
    · obtain rfl : j = ts.length := by omega
      go_wp2_with fail
      go_ret
      have hm : (s, h) ∉ ts := fun hc => HN.out (s, h) (by rw [List.take_length]; exact hc) rfl
      exact ⟨by unfold idxN; rw [if_neg hm]; rfl, HQ.out⟩
abbrev strZ : Array Value := #[.int .i64 0, .int .i64 0, .slice none 0 0, .slice none 0 0, .bool false, .bool false, .bool false, .int .i64 0]
def findC (f : Int × Int → StR) (ts : List (Int × Int)) (n : Int × Int) : Array Value := if n ∈ ts then (strC n.1 n.2 (f n)).toArray else strZ
set_option maxRecDepth 100000 in
set_option maxHeartbeats 3200000 in
theorem strfind_any {A : Option Addr} {c : Nat} (f : Int × Int → StR) (ts : List (Int × Int)) (hl : ts.length ≤ 60) (H : Sat w (rowA 31 8 (.slice A ts.length c) ts.length (ts.flatMap (encS f)) :: L)) :
    Calls Tryz.prog 7 #[.slice A ts.length c, .int .i64 s, .int .i64 h] w fun e w' => e = .returned (.tuple #[.agg (findC f ts (s, h)), .bool (decide ((s, h) ∈ ts))]) ∧ Sat w' (rowA 31 8 (.slice A ts.length c) ts.length (ts.flatMap (encS f)) :: L) := by
  have H3 := ((H.alloc #[.int .i64 s] 3).allocG #[.int .i64 h] 3 (g := w.heap.size + 1) (by simp)).allocG strZ 31 (g := w.heap.size + 2) (by simp)
  have IX := Keep.mk (idx_any (s := s) (h := h) f ts hl (H3.perm (L' := rowA 31 8 (.slice A ts.length c) ts.length (ts.flatMap (encS f)) :: blkA w.heap.size #[.int .i64 s] 3 :: blkA (w.heap.size + 1) #[.int .i64 h] 3 :: blkA (w.heap.size + 2) strZ 31 :: L) (by
    refine (List.Perm.trans (perm_rmv 3 _ _ rfl) (List.Perm.cons _ ?_))
    exact (perm_rmv 2 _ _ rfl).trans (List.Perm.cons _ (List.Perm.swap _ _ _)))))
  clear H H3
  by_cases hm : (s, h) ∈ ts
  · have hi : idxN ts (s, h) = (ts.idxOf (s, h) : Nat) := if_pos hm
    have hd : decide ((s, h) ∈ ts) = true := decide_eq_true hm
    have hc : findC f ts (s, h) = (strC s h (f (s, h))).toArray := if_pos hm
    have hj : ts.idxOf (s, h) < ts.length := List.idxOf_lt_length_of_mem hm
    have hx : ts[ts.idxOf (s, h)]? = some (s, h) := by rw [List.getElem?_eq_getElem hj]; simp
    rw [hd, hc]
    rw [hi] at IX
    obtain ⟨j, hjj⟩ : ∃ j, ts.idxOf (s, h) = j := ⟨_, rfl⟩
    rw [hjj] at IX hj hx
    have HX := Keep.mk hx
    clear hi hd hc hm hx hjj
    go_enter Tryz.func7, Tryz.ntmps7
    go_wp2_with (first
      | (go_at_call 19
         refine IX.out.mono ?_
         rintro e w2 ⟨rfl, h2⟩
         obtain ⟨g, off, rfl, _, hcs⟩ := Rd.of_own (encS_length f) (by decide) h2.own (List.ne_nil_of_length_pos (by omega))
         have cc : ∀ (k : Nat) (u : Value), (encS f (s, h))[k]? = some u → w2.cell? ⟨g, off + j * 8 + k, none⟩ = some u := fun k u hu => hcs j (s, h) HX.out k u hu
         have c0 : w2.cell? ⟨g, off + j * 8, none⟩ = some (.int .i64 s) := cc 0 _ rfl
         have c1 : w2.cell? ⟨g, off + j * 8 + 1, none⟩ = some (.int .i64 h) := cc 1 _ rfl
         have c2 : w2.cell? ⟨g, off + j * 8 + 2, none⟩ = some (.slice (f (s, h)).A1 (f (s, h)).n1 (f (s, h)).c1) := cc 2 _ rfl
         have c3 : w2.cell? ⟨g, off + j * 8 + 3, none⟩ = some (.slice (f (s, h)).A2 (f (s, h)).n2 (f (s, h)).c2) := cc 3 _ rfl
         have c4 : w2.cell? ⟨g, off + j * 8 + 4, none⟩ = some (.bool (f (s, h)).sh) := cc 4 _ rfl
         have c5 : w2.cell? ⟨g, off + j * 8 + 5, none⟩ = some (.bool (f (s, h)).cl) := cc 5 _ rfl
         have c6 : w2.cell? ⟨g, off + j * 8 + 6, none⟩ = some (.bool (f (s, h)).ov) := cc 6 _ rfl
         have c7 : w2.cell? ⟨g, off + j * 8 + 7, none⟩ = some (.int .i64 (f (s, h)).e) := cc 7 _ rfl
         have K2 := Keep.mk h2
         clear h2 hcs cc)
      | (refine wpList_putrow 3 (w.heap.size + 2) (strC s h (f (s, h))).toArray rfl 31 (.tmp 6) (.tmp 18) rfl K2.out rfl rfl rfl (by kernel_rfl) rfl (by simp [Value.oneCell']) ?_
         intro w3 h3
         have K3 := Keep.mk h3
         clear h3)
      | fail)
    refine bodyPost_ret (results_ct Tryz.results7 _ _ (w.heap.size + 2) 31 _ (0, 0) _ rfl (K3.out.bkAt 3 rfl).eq Tryz.underlying31 rfl (by kernel_rfl)) rfl ⟨rfl, ?_⟩
    exact ((K3.out.rm 1 rfl).rm 1 rfl).rm 1 rfl
  · have hi : idxN ts (s, h) = -1 := if_neg hm
    have hd : decide ((s, h) ∈ ts) = false := decide_eq_false hm
    have hc : findC f ts (s, h) = strZ := if_neg hm
    rw [hd, hc]
    rw [hi] at IX
    clear hi hd hc hm
    go_enter Tryz.func7, Tryz.ntmps7
    go_wp2_with (first
      | (go_at_call 19
         refine IX.out.mono ?_
         rintro e w2 ⟨rfl, h2⟩
         have K2 := Keep.mk h2
         clear h2)
      | (refine wpList_putrow 3 (w.heap.size + 2) strZ rfl 31 (.tmp 6) (.tmp 14) rfl K2.out rfl rfl rfl (by kernel_rfl) rfl (by simp [Value.oneCell']) ?_
         intro w3 h3
         have K3 := Keep.mk h3
         clear h3)
      | fail)
    refine bodyPost_ret (results_ct Tryz.results7 _ _ (w.heap.size + 2) 31 _ (0, 0) _ rfl (K3.out.bkAt 3 rfl).eq Tryz.underlying31 rfl (by kernel_rfl)) rfl ⟨rfl, ?_⟩
    exact ((K3.out.rm 1 rfl).rm 1 rfl).rm 1 rfl
end
end Go.Proofs.YtjpokeakemlffaaGreatDoor
/-
  The reference's Begins, All, Of; the law's same.
-/
namespace Go.Proofs.YtjpokeakemlffaaGreatDoor
open Go.RowKit Go.Maps
def isNm (n : Int × Int) (x : Td) : Bool := x.s == n.1 && x.h == n.2
def isB (x : Td) : Bool := (x.k == 5 || x.k == 6) && x.e == 0
def begN (n : Int × Int) : List Td → Int
  | [] => -1
  | x :: l => if isNm n x && isB x then 0 else if begN n l < 0 then -1 else begN n l + 1
theorem begN_no {n : Int × Int} : ∀ {l : List Td}, (∀ x ∈ l, (isNm n x && isB x) = false) → begN n l = -1
  | [], _ => rfl
  | x :: l, h => by
    rw [begN, if_neg (by rw [h x (by simp)]; decide), begN_no (l := l) (fun y hy => h y (by simp [hy]))]
    rfl
theorem begN_at {n : Int × Int} {x : Td} {r : List Td} (hx : (isNm n x && isB x) = true) : ∀ {l : List Td}, (∀ x ∈ l, (isNm n x && isB x) = false) → begN n (l ++ x :: r) = l.length
  | [], _ => by rw [List.nil_append, begN, if_pos hx]; rfl
  | y :: l, h => by
    rw [List.cons_append, begN, if_neg (by rw [h y (by simp)]; decide), begN_at hx (l := l) (fun y hy => h y (by simp [hy])), if_neg (by omega)]
    simp
section
variable {w w0 : World} {L : List HA} {s h : Int}
set_option maxRecDepth 100000 in
set_option maxHeartbeats 6400000 in
theorem begins_any {A : Option Addr} {n c : Nat} {l : List Td} (ha : Arg w 7 tdK A n c l) (hn : n ≤ 1000) :
    Calls Tryz.prog 6 #[.slice A n c, .int .i64 s, .int .i64 h] w fun e w' => e = .returned (.int .i64 (begN (s, h) l)) ∧ w' = w := by
  have HA := Keep.mk ha
  have hlen := ha.hlen
  clear ha
  go_enter Tryz.func6, Tryz.ntmps6
  go_wp2_with fail
  go_loopw [7] (fun i wr => ∃ j : Nat, i = .int .i64 j ∧ j ≤ n ∧ wr = w ∧ Keep (∀ x ∈ l.take j, (isNm (s, h) x && isB x) = false)) (fun i _ => n - (intOf i).toNat)
  case atStart => exact ⟨0, rfl, Nat.zero_le _, rfl, ⟨by simp⟩⟩
  case round =>
    obtain ⟨j, rfl, hj, rfl, HN⟩ := hrel
    have hn2 : n ≤ 1000 := hn
    rcases Nat.lt_or_ge j n with hlt | hge
    · obtain ⟨x, hx⟩ : ∃ x, l[j]? = some x := ⟨l[j]'(by omega), List.getElem?_eq_getElem _⟩
      obtain ⟨g, off, rfl, hg, hcs⟩ := HA.out.rd (by intro e; rw [e] at hx; simp at hx)
      have cc : ∀ (k : Nat) (u : Value), (tdK x)[k]? = some u → wr.cell? ⟨g, off + j * 7 + k, none⟩ = some u := fun k u hu => hcs j x hx k u hu
      have c0 : wr.cell? ⟨g, off + j * 7, none⟩ = some (.int .i64 x.s) := cc 0 _ rfl
      have c2 : wr.cell? ⟨g, off + j * 7 + 2, none⟩ = some (.int .i64 x.k) := cc 2 _ rfl
      have c3 : wr.cell? ⟨g, off + j * 7 + 3, none⟩ = some (.int .i64 x.h) := cc 3 _ rfl
      have c6 : wr.cell? ⟨g, off + j * 7 + 6, none⟩ = some (.int .i64 x.e) := cc 6 _ rfl
      obtain ⟨p, hp⟩ : ∃ b, (x.s == s) = b := ⟨_, rfl⟩
      obtain ⟨q, hq⟩ : ∃ b, (x.h == h) = b := ⟨_, rfl⟩
      obtain ⟨b5, h5⟩ : ∃ b, (x.k == 5) = b := ⟨_, rfl⟩
      obtain ⟨b6, h6⟩ : ∃ b, (x.k == 6) = b := ⟨_, rfl⟩
      obtain ⟨bz, hz⟩ : ∃ b, (x.e == 0) = b := ⟨_, rfl⟩
      have HB : Keep ((isNm (s, h) x && isB x) = (p && q && ((b5 || b6) && bz))) := ⟨by rw [← hp, ← hq, ← h5, ← h6, ← hz]; rfl⟩
      have HX := Keep.mk hx
      clear cc hcs hx hg
      have hcase : (p = true ∧ q = true ∧ b5 = true ∧ bz = true) ∨ (p = true ∧ q = true ∧ b5 = false ∧ b6 = true ∧ bz = true) ∨ (p = false) ∨ (p = true ∧ q = false) ∨ (p = true ∧ q = true ∧ b5 = true ∧ bz = false) ∨ (p = true ∧ q = true ∧ b5 = false ∧ b6 = true ∧ bz = false) ∨ (p = true ∧ q = true ∧ b5 = false ∧ b6 = false) := by
        cases p <;> cases q <;> cases b5 <;> cases b6 <;> cases bz <;> simp
      rcases hcase with ⟨rfl, rfl, rfl, rfl⟩ | ⟨rfl, rfl, rfl, rfl, rfl⟩ | hcase
      · go_wp2_with fail
        go_ret
        refine ⟨?_, rfl⟩
        rw [show l = l.take j ++ x :: l.drop (j + 1) by
          conv => lhs; rw [← List.take_append_drop j l]
          rw [List.drop_eq_getElem_cons (by omega), (List.getElem?_eq_some_iff.1 HX.out).2], begN_at (by rw [HB.out]; simp) HN.out, List.length_take, Nat.min_eq_left (by omega)]
        rfl
      · go_wp2_with fail
        go_ret
        refine ⟨?_, rfl⟩
        rw [show l = l.take j ++ x :: l.drop (j + 1) by
          conv => lhs; rw [← List.take_append_drop j l]
          rw [List.drop_eq_getElem_cons (by omega), (List.getElem?_eq_some_iff.1 HX.out).2], begN_at (by rw [HB.out]; simp) HN.out, List.length_take, Nat.min_eq_left (by omega)]
        rfl
      · have HNO : Keep (∀ y ∈ l.take (j + 1), (isNm (s, h) y && isB y) = false) := ⟨fun y hy => by
          rw [List.take_add_one, HX.out] at hy
          rcases List.mem_append.1 hy with hy | hy
          · exact HN.out y hy
          · obtain rfl : y = x := by simpa using hy
            rw [HB.out]
            rcases hcase with rfl | ⟨rfl, rfl⟩ | ⟨rfl, rfl, rfl, rfl⟩ | ⟨rfl, rfl, rfl, rfl, rfl⟩ | ⟨rfl, rfl, rfl, rfl⟩ <;> simp⟩
        rcases hcase with rfl | ⟨rfl, rfl⟩ | ⟨rfl, rfl, rfl, rfl⟩ | ⟨rfl, rfl, rfl, rfl, rfl⟩ | ⟨rfl, rfl, rfl, rfl⟩
        all_goals
          go_wp2_with fail
          go_roundw
          case rel => exact ⟨j + 1, by go_num, by omega, by first | rfl | trivial, HNO⟩
          case measure => simp [intOf] <;> omega
    · obtain rfl : j = n := by omega
      go_wp2_with fail
      go_ret
      refine ⟨?_, rfl⟩
      rw [begN_no (fun x hx => HN.out x (by rw [List.take_of_length_le (by omega)]; exact hx))]
      rfl
def allN (s k h : Int) (l : List Td) : List Int := (l.filter fun x => x.s == s && x.k == k && x.h == h).flatMap (·.d)
theorem allN_snoc {s k h : Int} {l : List Td} {x : Td} {j : Nat} (hx : l[j]? = some x) : allN s k h (l.take (j + 1)) = allN s k h (l.take j) ++ if (x.s == s && x.k == k && x.h == h) = true then x.d else [] := by
  unfold allN
  rw [List.take_add_one, hx]
  simp only [Option.toList_some, List.filter_append, List.flatMap_append]
  congr 1
  by_cases e : (x.s == s && x.k == k && x.h == h) = true
  · simp [List.filter, e]
  · rw [Bool.not_eq_true] at e
    simp [List.filter, e]
theorem allN_len {s k h : Int} : ∀ {l : List Td}, (∀ x ∈ l, x.d.length ≤ 100) → (allN s k h l).length ≤ 100 * l.length
  | [], _ => by simp [allN]
  | x :: l, H => by
    have ih := allN_len (s := s) (k := k) (h := h) (l := l) fun y hy => H y (by simp [hy])
    have hx := H x (by simp)
    unfold allN at ih ⊢
    rw [List.filter_cons]
    split
    · rw [List.flatMap_cons, List.length_append, List.length_cons]; omega
    · rw [List.length_cons]; omega
set_option maxRecDepth 100000 in
set_option maxHeartbeats 6400000 in
theorem refAll_any {k : Int} {A : Option Addr} {n c : Nat} {own : List Td} (hlen : own.length = n) (H : Sat w (rowA 27 7 (.slice A n c) n (own.flatMap tdK) :: initA w0 :: L)) (hd : ∀ x ∈ own, Arg w0 1 encB x.A x.m x.c x.d) (hm : ∀ x ∈ own, x.m ≤ 100) (hn : n ≤ 60) :
    Calls Tryz.prog 22 #[.slice A n c, .int .i64 s, .int .i64 k, .int .i64 h] w fun e w' => ∃ A2 c2, e = .returned (.slice A2 (allN s k h own).length c2) ∧
      Sat w' (rowA 5 1 (.slice A2 (allN s k h own).length c2) (allN s k h own).length ((allN s k h own).flatMap encB) :: rowA 27 7 (.slice A n c) n (own.flatMap tdK) :: initA w0 :: L) := by
  have HS := Keep.mk (H.nil 5 1)
  have HD := Keep.mk (And.intro hd hm)
  have HDL : Keep (∀ x ∈ own, x.d.length ≤ 100) := ⟨fun x hx => by rw [(hd x hx).hlen]; exact hm x hx⟩
  clear H hd hm
  go_enter Tryz.func22, Tryz.ntmps22
  go_wp2_with fail
  go_loopw [9, 10] (fun out i wr => ∃ (j : Nat) (A2 : Option Addr) (c2 : Nat), i = .int .i64 j ∧ j ≤ n ∧ out = .slice A2 (allN s k h (own.take j)).length c2 ∧
      Keep (Sat wr (rowA 5 1 (.slice A2 (allN s k h (own.take j)).length c2) (allN s k h (own.take j)).length ((allN s k h (own.take j)).flatMap encB) :: rowA 27 7 (.slice A n c) n (own.flatMap tdK) :: initA w0 :: L))) (fun _ i _ => n - (intOf i).toNat)
  case atStart => exact ⟨0, none, 0, rfl, Nat.zero_le _, rfl, HS⟩
  case round =>
    obtain ⟨j, A2, c2, rfl, hj, rfl, HQ⟩ := hrel
    clear HS
    have hn2 : n ≤ 60 := hn
    rcases Nat.lt_or_ge j n with hlt | hge
    · obtain ⟨x, hx⟩ : ∃ x, own[j]? = some x := ⟨own[j]'(by omega), List.getElem?_eq_getElem _⟩
      have hxm := List.mem_of_getElem? hx
      have hrow := (HQ.out.to 1 rfl).own
      obtain ⟨g, off, rfl, hg, hcs⟩ := Rd.of_own tdK_length (by decide) hrow (by intro e; rw [e] at hx; simp at hx)
      have cc : ∀ (k : Nat) (u : Value), (tdK x)[k]? = some u → wr.cell? ⟨g, off + j * 7 + k, none⟩ = some u := fun k u hu => hcs j x hx k u hu
      have c0 : wr.cell? ⟨g, off + j * 7, none⟩ = some (.int .i64 x.s) := cc 0 _ rfl
      have c2' : wr.cell? ⟨g, off + j * 7 + 2, none⟩ = some (.int .i64 x.k) := cc 2 _ rfl
      have c3 : wr.cell? ⟨g, off + j * 7 + 3, none⟩ = some (.int .i64 x.h) := cc 3 _ rfl
      have c5 : wr.cell? ⟨g, off + j * 7 + 5, none⟩ = some (.slice x.A x.m x.c) := cc 5 _ rfl
      have HAX := Keep.mk (HD.out.1 x hxm)
      have HMX : Keep ((allN s k h (own.take j)).length + x.m ≤ 1000000) := ⟨by
        have h1 := allN_len (s := s) (k := k) (h := h) (l := own.take j) fun y hy => HDL.out y (List.mem_of_mem_take hy)
        have h2 := HD.out.2 x hxm
        rw [List.length_take] at h1
        omega⟩
      have HSN := Keep.mk (allN_snoc (s := s) (k := k) (h := h) hx)
      have HBW := Keep.mk ((HQ.out.to 2 rfl).initB)
      obtain ⟨p, hp⟩ : ∃ b, (x.s == s) = b := ⟨_, rfl⟩
      obtain ⟨q, hq⟩ : ∃ b, (x.h == h) = b := ⟨_, rfl⟩
      obtain ⟨r, hr⟩ : ∃ b, (x.k == k) = b := ⟨_, rfl⟩
      rw [hp, hq, hr] at HSN
      clear cc hcs hx hg hxm hrow
      have hcase : (p = true ∧ r = true ∧ q = true) ∨ (p = false) ∨ (p = true ∧ r = false) ∨ (p = true ∧ r = true ∧ q = false) := by
        cases p <;> cases q <;> cases r <;> simp
      rcases hcase with ⟨rfl, rfl, rfl⟩ | hcase
      · go_wp2_with (first
          | (refine wpList_appR rfl (.tmp 42) (.tmp 47) 24 rfl Tryz.underlying24 infoB1 rfl (by omega) (by omega) HQ.out rfl rfl HAX.out.hnil HAX.out.hlen ((HAX.out.rd.below HBW.out).more HBW.out.size) encB_length encBOne HMX.out ?_
             intro A3 c3' w4 h4
             have K4 := Keep.mk h4
             clear h4)
          | fail)
        go_roundw
        case rel =>
          have hs := HSN.out
          simp only [Bool.and_self, if_true] at hs
          refine ⟨j + 1, A3, c3', by go_num, hlt, ?_, ⟨?_⟩⟩
          · rw [hs, List.length_append, HAX.out.hlen]
          · rw [hs, List.length_append, HAX.out.hlen, List.flatMap_append]
            exact K4.out
        case measure => simp [intOf] <;> omega
      · have HE : Keep (allN s k h (own.take (j + 1)) = allN s k h (own.take j)) := ⟨by
          rw [HSN.out]
          rcases hcase with rfl | ⟨rfl, rfl⟩ | ⟨rfl, rfl, rfl⟩ <;> simp⟩
        rcases hcase with rfl | ⟨rfl, rfl⟩ | ⟨rfl, rfl, rfl⟩
        all_goals
          go_wp2_with fail
          go_roundw
          case rel => exact ⟨j + 1, A2, c2, by go_num, hlt, by rw [HE.out], ⟨by rw [HE.out]; exact HQ.out⟩⟩
          case measure => simp [intOf] <;> omega
    · obtain rfl : j = n := by omega
      have HE : Keep (allN s k h (own.take j) = allN s k h own) := ⟨by rw [List.take_of_length_le (by omega)]⟩
      go_wp2_with fail
      go_ret
      exact ⟨A2, c2, by rw [← HE.out]; rfl, by rw [← HE.out]; exact HQ.out⟩
end
end Go.Proofs.YtjpokeakemlffaaGreatDoor
/-
  The reference's Of.
-/
namespace Go.Proofs.YtjpokeakemlffaaGreatDoor
open Go.RowKit Go.Maps
theorem infoTd : (Tryz.prog.info? 27).map (fun i => (i.zero, i.size, i.bytes)) = some (some (.agg #[.int .i64 0, .int .i64 0, .int .i64 0, .int .i64 0, .int .i64 0, .slice none 0 0, .int .i64 0]), 7, 72) := by kernel_rfl
abbrev miniS (t : StS) : Bool × Bool × Bool × Int := (t.sh, t.cl, t.ov, t.e)
abbrev refC (v1 v2 : Value) (m : Bool × Bool × Bool × Int) : Array Value := #[v1, v2, .bool m.1, .bool m.2.1, .bool m.2.2.1, .int .i64 m.2.2.2]
def foldS (l : List Td) : StS := l.foldl hearN noSt
def ownN (n : Int × Int) (at_ : Nat) (l : List Td) : List Td := (l.drop at_).filter (isNm n)
section
variable {w w0 : World} {L : List HA} {s h : Int}
set_option maxRecDepth 100000 in
set_option maxHeartbeats 12800000 in
theorem refOf_any {A : Option Addr} {n c at_ : Nat} {l : List Td} (ha : Arg w0 7 tdK A n c l) (hd : ∀ x ∈ l, Arg w0 1 encB x.A x.m x.c x.d) (hm : ∀ x ∈ l, x.m ≤ 100) (hn : n ≤ 60) (hat : at_ ≤ n) (H : Sat w (initA w0 :: L)) :
    Calls Tryz.prog 9 #[.slice A n c, .int .i64 s, .int .i64 h, .int .i64 at_] w fun e w' => ∃ A1 c1 A2 c2, e = .returned (.agg (refC (.slice A1 (allN s 7 h (ownN (s, h) at_ l)).length c1) (.slice A2 (allN s 8 h (ownN (s, h) at_ l)).length c2) (miniS (foldS (ownN (s, h) at_ l))))) ∧
      Sat w' (rowA 5 1 (.slice A1 (allN s 7 h (ownN (s, h) at_ l)).length c1) (allN s 7 h (ownN (s, h) at_ l)).length ((allN s 7 h (ownN (s, h) at_ l)).flatMap encB) ::
        rowA 5 1 (.slice A2 (allN s 8 h (ownN (s, h) at_ l)).length c2) (allN s 8 h (ownN (s, h) at_ l)).length ((allN s 8 h (ownN (s, h) at_ l)).flatMap encB) :: initA w0 :: L) := by
  have HA := Keep.mk ha
  have hlen := ha.hlen
  have HD := Keep.mk (And.intro hd hm)
  have H1 := H.alloc (refC (.slice none 0 0) (.slice none 0 0) (false, false, false, 0)) 37
  have HS := Keep.mk (H1.nil 27 7)
  clear ha hd hm H H1
  go_enter Tryz.func9, Tryz.ntmps9
  go_wp2_with fail
  go_loopw [9, 10] (fun out i wr => ∃ (j : Nat) (A2 : Option Addr) (c2 : Nat), i = .int .i64 j ∧ at_ ≤ j ∧ j ≤ n ∧ out = .slice A2 (ownN (s, h) at_ (l.take j)).length c2 ∧
      Keep (Sat wr (rowA 27 7 (.slice A2 (ownN (s, h) at_ (l.take j)).length c2) (ownN (s, h) at_ (l.take j)).length ((ownN (s, h) at_ (l.take j)).flatMap tdK) :: blkA w.heap.size (refC (.slice none 0 0) (.slice none 0 0) (false, false, false, 0)) 37 :: initA w0 :: L))) (fun _ i _ => n - (intOf i).toNat)
  case atStart =>
    have e0 : ownN (s, h) at_ (l.take at_) = [] := by unfold ownN; rw [List.drop_eq_nil_of_le (by rw [List.length_take]; omega)]; rfl
    exact ⟨at_, none, 0, rfl, Nat.le_refl _, hat, by rw [e0]; rfl, ⟨by rw [e0]; exact HS.out⟩⟩
  case round =>
    obtain ⟨j, A2, c2, rfl, haj, hj, rfl, HQ⟩ := hrel
    clear HS
    have hn2 : n ≤ 60 := hn
    rcases Nat.lt_or_ge j n with hlt | hge
    · obtain ⟨x, hx⟩ : ∃ x, l[j]? = some x := ⟨l[j]'(by omega), List.getElem?_eq_getElem _⟩
      obtain ⟨g, off, rfl, hg, hcs⟩ := HA.out.rd (by intro e; rw [e] at hx; simp at hx)
      have HB := (HQ.out.to 2 rfl).initB
      have cc : ∀ (k : Nat) (u : Value), (tdK x)[k]? = some u → wr.cell? ⟨g, off + j * 7 + k, none⟩ = some u := fun k u hu => (HB.cell (p := ⟨g, off + j * 7 + k, none⟩) hg).trans (hcs j x hx k u hu)
      have c0 : wr.cell? ⟨g, off + j * 7, none⟩ = some (.int .i64 x.s) := cc 0 _ rfl
      have c1 : wr.cell? ⟨g, off + j * 7 + 1, none⟩ = some (.int .i64 x.tk) := cc 1 _ rfl
      have c2' : wr.cell? ⟨g, off + j * 7 + 2, none⟩ = some (.int .i64 x.k) := cc 2 _ rfl
      have c3 : wr.cell? ⟨g, off + j * 7 + 3, none⟩ = some (.int .i64 x.h) := cc 3 _ rfl
      have c4 : wr.cell? ⟨g, off + j * 7 + 4, none⟩ = some (.int .i64 x.n) := cc 4 _ rfl
      have c5 : wr.cell? ⟨g, off + j * 7 + 5, none⟩ = some (.slice x.A x.m x.c) := cc 5 _ rfl
      have c6 : wr.cell? ⟨g, off + j * 7 + 6, none⟩ = some (.int .i64 x.e) := cc 6 _ rfl
      have HSN : Keep (ownN (s, h) at_ (l.take (j + 1)) = ownN (s, h) at_ (l.take j) ++ if isNm (s, h) x = true then [x] else []) := ⟨by
        unfold ownN
        rw [List.take_add_one, hx, List.drop_append_of_le_length (by rw [List.length_take]; omega), List.filter_append]
        congr 1
        by_cases e : isNm (s, h) x = true
        · simp [List.filter, e]
        · rw [Bool.not_eq_true] at e; simp [List.filter, e]⟩
      have HLN : Keep ((ownN (s, h) at_ (l.take j)).length < 1000000) := ⟨by
        have : (ownN (s, h) at_ (l.take j)).length ≤ ((l.take j).drop at_).length := List.length_filter_le _ _
        rw [List.length_drop, List.length_take] at this; omega⟩
      obtain ⟨p, hp⟩ : ∃ b, (x.s == s) = b := ⟨_, rfl⟩
      obtain ⟨q, hq⟩ : ∃ b, (x.h == h) = b := ⟨_, rfl⟩
      have HNM : Keep (isNm (s, h) x = (p && q)) := ⟨by rw [← hp, ← hq]; rfl⟩
      clear cc hcs hx hg HB
      rcases (show (p = true ∧ q = true) ∨ (p = false) ∨ (p = true ∧ q = false) by cases p <;> cases q <;> simp) with ⟨rfl, rfl⟩ | rfl | ⟨rfl, rfl⟩
      · go_wp2_with (first
          | (refine wpList_push rfl (.tmp 37) (.tmp 42) 22 rfl Tryz.underlying22 infoTd rfl (by omega) (by omega) ((HQ.out.alloc _ _).to 1 rfl) rfl rfl rfl (by simp [Value.oneCell']) HLN.out ?_
             intro A3 c3' w4 h4
             have K4 := Keep.mk h4
             clear h4)
          | fail)
        go_roundw
        case rel =>
          have hs := HSN.out
          rw [HNM.out] at hs
          simp only [Bool.and_self, if_true] at hs
          refine ⟨j + 1, A3, c3', by go_num, by omega, hlt, ?_, ⟨?_⟩⟩
          · rw [hs, List.length_append]; rfl
          · rw [hs, List.length_append, List.flatMap_append]
            exact K4.out
        case measure => simp [intOf] <;> omega
      all_goals
        have HE : Keep (ownN (s, h) at_ (l.take (j + 1)) = ownN (s, h) at_ (l.take j)) := ⟨by rw [HSN.out, HNM.out]; simp⟩
        go_wp2_with fail
        go_roundw
        case rel => exact ⟨j + 1, A2, c2, by go_num, by omega, hlt, by rw [HE.out], ⟨by rw [HE.out]; exact HQ.out⟩⟩
        case measure => simp [intOf] <;> omega
    · obtain rfl : j = n := by omega
      have hown : ownN (s, h) at_ (l.take j) = ownN (s, h) at_ l := by rw [List.take_of_length_le (by omega)]
      rw [hown] at HQ
      obtain ⟨own, hOWN⟩ : ∃ own, ownN (s, h) at_ l = own := ⟨_, rfl⟩
      have HOD : Keep ((∀ x ∈ own, Arg w0 1 encB x.A x.m x.c x.d) ∧ (∀ x ∈ own, x.m ≤ 100) ∧ own.length ≤ 60) := ⟨by
        have hsub : ∀ x ∈ own, x ∈ l := fun x hx => by rw [← hOWN] at hx; exact List.mem_of_mem_drop (List.mem_filter.1 hx).1
        refine ⟨fun x hx => HD.out.1 x (hsub x hx), fun x hx => HD.out.2 x (hsub x hx), ?_⟩
        rw [← hOWN]
        have : (ownN (s, h) at_ l).length ≤ (l.drop at_).length := List.length_filter_le _ _
        rw [List.length_drop] at this; omega⟩
      rw [hOWN] at HQ
      rw [hown, hOWN]
      have HOW := Keep.mk hOWN
      clear hown hOWN HA HD
      have h0 : Sat wr (rowA 27 7 (.slice A2 own.length c2) own.length (own.flatMap tdK) :: initA w0 :: blkA w.heap.size (refC (.slice none 0 0) (.slice none 0 0) (false, false, false, 0)) 37 :: L) := ((HQ.out.to 2 rfl).back 1)
      have AL1 := Keep.mk (refAll_any (s := s) (h := h) (k := 7) rfl h0 HOD.out.1 HOD.out.2.1 HOD.out.2.2)
      clear h0 HQ
      go_wp2_with (first
        | (go_at_call 22
           first
             | (refine AL1.out.mono ?_
                rintro e w1 ⟨A5, c5, rfl, h1⟩
                have AL2 := Keep.mk (refAll_any (s := s) (h := h) (k := 8) (L := rowA 5 1 (.slice A5 (allN s 7 h own).length c5) (allN s 7 h own).length ((allN s 7 h own).flatMap encB) :: blkA w.heap.size (refC (.slice none 0 0) (.slice none 0 0) (false, false, false, 0)) 37 :: L) rfl (h1.back 2) HOD.out.1 HOD.out.2.1 HOD.out.2.2)
                clear h1 AL1)
             | (refine AL2.out.mono ?_
                rintro e w2 ⟨A6, c6, rfl, h2⟩
                have K2 := Keep.mk h2
                clear h2 AL2))
        | fail)
      have K3 := Keep.mk (K2.out.alloc (refC (.slice A5 (allN s 7 h own).length c5) (.slice A6 (allN s 8 h own).length c6) (false, false, false, 0)) 37)
      go_loopw [12] (fun i wr => ∃ j : Nat, i = .int .i64 j ∧ j ≤ own.length ∧ Keep (Sat wr (blkA w2.heap.size (refC (.slice A5 (allN s 7 h own).length c5) (.slice A6 (allN s 8 h own).length c6) (miniS (foldS (own.take j)))) 37 ::
          rowA 5 1 (.slice A6 (allN s 8 h own).length c6) (allN s 8 h own).length ((allN s 8 h own).flatMap encB) :: rowA 27 7 (.slice A2 own.length c2) own.length (own.flatMap tdK) :: initA w0 :: rowA 5 1 (.slice A5 (allN s 7 h own).length c5) (allN s 7 h own).length ((allN s 7 h own).flatMap encB) :: blkA w.heap.size (refC (.slice none 0 0) (.slice none 0 0) (false, false, false, 0)) 37 :: L))) (fun i _ => own.length - (intOf i).toNat)
      case atStart => exact ⟨0, rfl, Nat.zero_le _, K3⟩
      case round =>
        obtain ⟨j, rfl, hj, HQ⟩ := hrel
        clear K2 K3
        have hn60 : own.length ≤ 60 := HOD.out.2.2
        rcases Nat.lt_or_ge j own.length with hlt | hge
        · obtain ⟨x, hx⟩ : ∃ x, own[j]? = some x := ⟨own[j], List.getElem?_eq_getElem hlt⟩
          have hrow := (HQ.out.to 2 rfl).own
          obtain ⟨g, off, rfl, hg, hcs⟩ := Rd.of_own tdK_length (by decide) hrow (by intro e; rw [e] at hx; simp at hx)
          have cc : ∀ (k : Nat) (u : Value), (tdK x)[k]? = some u → wr.cell? ⟨g, off + j * 7 + k, none⟩ = some u := fun k u hu => hcs j x hx k u hu
          have c2' : wr.cell? ⟨g, off + j * 7 + 2, none⟩ = some (.int .i64 x.k) := cc 2 _ rfl
          have c6' : wr.cell? ⟨g, off + j * 7 + 6, none⟩ = some (.int .i64 x.e) := cc 6 _ rfl
          have hf : foldS (own.take (j + 1)) = hearN (foldS (own.take j)) x := by
            unfold foldS
            rw [List.take_add_one, hx]
            simp [List.foldl_append]
          obtain ⟨t, ht⟩ : ∃ t, foldS (own.take j) = t := ⟨_, rfl⟩
          rw [ht] at HQ hf
          obtain ⟨wr0, rd0, sh0, cl0, ov0, e0⟩ := t
          have HF := Keep.mk hf
          have f2 : wr.cell? ⟨w2.heap.size, 2, none⟩ = some (.bool sh0) := HQ.out.bk.c 2
          have f3 : wr.cell? ⟨w2.heap.size, 3, none⟩ = some (.bool cl0) := HQ.out.bk.c 3
          have f4 : wr.cell? ⟨w2.heap.size, 4, none⟩ = some (.bool ov0) := HQ.out.bk.c 4
          have f5 : wr.cell? ⟨w2.heap.size, 5, none⟩ = some (.int .i64 e0) := HQ.out.bk.c 5
          have z2 := HQ.out.bk.free 2
          have z3 := HQ.out.bk.free 3
          have z4 := HQ.out.bk.free 4
          have z5 := HQ.out.bk.free 5
          have hne : w2.heap.size ≠ g := by
            have h3 := HQ.out.bk
            obtain ⟨_, cur, hb⟩ := own_ty hrow (g := g) rfl
            exact h3.ne_ty hb (by decide)
          clear cc hcs hx hg hrow hf ht
          -- gen
          by_cases hk7 : x.k = 7
          · obtain ⟨z, hz⟩ : ∃ b, (e0 == 0) = b := ⟨_, rfl⟩
            cases z
            · have HM : Keep (miniS (hearN ⟨wr0, rd0, sh0, cl0, ov0, e0⟩ x) = (sh0, cl0, ov0, e0)) := ⟨by simp [miniS, hearN, hearK, hearE, badB, *]⟩
              go_wp2_with fail
              go_roundw
              case rel => exact ⟨j + 1, by go_num, hlt, ⟨by rw [HF.out, HM.out]; exact HQ.out⟩⟩
              case measure => simp [intOf] <;> omega
            · obtain ⟨a, ha⟩ : ∃ b, (x.e == 12) = b := ⟨_, rfl⟩
              cases a
              · obtain ⟨b, hb⟩ : ∃ b, (x.e == 13) = b := ⟨_, rfl⟩
                cases b
                · obtain ⟨c, hc⟩ : ∃ b, (x.e == 14) = b := ⟨_, rfl⟩
                  cases c
                  · obtain ⟨d, hd⟩ : ∃ b, (x.e == 17) = b := ⟨_, rfl⟩
                    cases d
                    · have HM : Keep (miniS (hearN ⟨wr0, rd0, sh0, cl0, ov0, e0⟩ x) = (sh0, cl0, ov0, e0)) := ⟨by simp [miniS, hearN, hearK, hearE, badB, *]⟩
                      go_wp2_with fail
                      go_roundw
                      case rel => exact ⟨j + 1, by go_num, hlt, ⟨by rw [HF.out, HM.out]; exact HQ.out⟩⟩
                      case measure => simp [intOf] <;> omega
                    · have HM : Keep (miniS (hearN ⟨wr0, rd0, sh0, cl0, ov0, e0⟩ x) = (sh0, cl0, ov0, x.e)) := ⟨by simp [miniS, hearN, hearK, hearE, badB, *]⟩
                      go_wp2_with fail
                      go_roundw
                      case rel => exact ⟨j + 1, by go_num, hlt, ⟨by rw [HF.out, HM.out]; exact (HQ.out).setAt 0 rfl 5 (.int .i64 x.e)⟩⟩
                      case measure => simp [intOf] <;> omega
                  · have HM : Keep (miniS (hearN ⟨wr0, rd0, sh0, cl0, ov0, e0⟩ x) = (sh0, cl0, ov0, x.e)) := ⟨by simp [miniS, hearN, hearK, hearE, badB, *]⟩
                    go_wp2_with fail
                    go_roundw
                    case rel => exact ⟨j + 1, by go_num, hlt, ⟨by rw [HF.out, HM.out]; exact (HQ.out).setAt 0 rfl 5 (.int .i64 x.e)⟩⟩
                    case measure => simp [intOf] <;> omega
                · have HM : Keep (miniS (hearN ⟨wr0, rd0, sh0, cl0, ov0, e0⟩ x) = (sh0, cl0, ov0, x.e)) := ⟨by simp [miniS, hearN, hearK, hearE, badB, *]⟩
                  go_wp2_with fail
                  go_roundw
                  case rel => exact ⟨j + 1, by go_num, hlt, ⟨by rw [HF.out, HM.out]; exact (HQ.out).setAt 0 rfl 5 (.int .i64 x.e)⟩⟩
                  case measure => simp [intOf] <;> omega
              · have HM : Keep (miniS (hearN ⟨wr0, rd0, sh0, cl0, ov0, e0⟩ x) = (sh0, cl0, ov0, x.e)) := ⟨by simp [miniS, hearN, hearK, hearE, badB, *]⟩
                go_wp2_with fail
                go_roundw
                case rel => exact ⟨j + 1, by go_num, hlt, ⟨by rw [HF.out, HM.out]; exact (HQ.out).setAt 0 rfl 5 (.int .i64 x.e)⟩⟩
                case measure => simp [intOf] <;> omega
          by_cases hk8 : x.k = 8
          · obtain ⟨u, hu⟩ : ∃ b, (x.e == 11) = b := ⟨_, rfl⟩
            cases u
            · obtain ⟨z, hz⟩ : ∃ b, (e0 == 0) = b := ⟨_, rfl⟩
              cases z
              · have HM : Keep (miniS (hearN ⟨wr0, rd0, sh0, cl0, ov0, e0⟩ x) = (sh0, cl0, ov0, e0)) := ⟨by simp [miniS, hearN, hearK, hearE, badB, *]⟩
                go_wp2_with fail
                go_roundw
                case rel => exact ⟨j + 1, by go_num, hlt, ⟨by rw [HF.out, HM.out]; exact HQ.out⟩⟩
                case measure => simp [intOf] <;> omega
              · obtain ⟨a, ha⟩ : ∃ b, (x.e == 12) = b := ⟨_, rfl⟩
                cases a
                · obtain ⟨b, hb⟩ : ∃ b, (x.e == 13) = b := ⟨_, rfl⟩
                  cases b
                  · obtain ⟨c, hc⟩ : ∃ b, (x.e == 14) = b := ⟨_, rfl⟩
                    cases c
                    · obtain ⟨d, hd⟩ : ∃ b, (x.e == 17) = b := ⟨_, rfl⟩
                      cases d
                      · have HM : Keep (miniS (hearN ⟨wr0, rd0, sh0, cl0, ov0, e0⟩ x) = (sh0, cl0, ov0, e0)) := ⟨by simp [miniS, hearN, hearK, hearE, badB, *]⟩
                        go_wp2_with fail
                        go_roundw
                        case rel => exact ⟨j + 1, by go_num, hlt, ⟨by rw [HF.out, HM.out]; exact HQ.out⟩⟩
                        case measure => simp [intOf] <;> omega
                      · have HM : Keep (miniS (hearN ⟨wr0, rd0, sh0, cl0, ov0, e0⟩ x) = (sh0, cl0, ov0, x.e)) := ⟨by simp [miniS, hearN, hearK, hearE, badB, *]⟩
                        go_wp2_with fail
                        go_roundw
                        case rel => exact ⟨j + 1, by go_num, hlt, ⟨by rw [HF.out, HM.out]; exact (HQ.out).setAt 0 rfl 5 (.int .i64 x.e)⟩⟩
                        case measure => simp [intOf] <;> omega
                    · have HM : Keep (miniS (hearN ⟨wr0, rd0, sh0, cl0, ov0, e0⟩ x) = (sh0, cl0, ov0, x.e)) := ⟨by simp [miniS, hearN, hearK, hearE, badB, *]⟩
                      go_wp2_with fail
                      go_roundw
                      case rel => exact ⟨j + 1, by go_num, hlt, ⟨by rw [HF.out, HM.out]; exact (HQ.out).setAt 0 rfl 5 (.int .i64 x.e)⟩⟩
                      case measure => simp [intOf] <;> omega
                  · have HM : Keep (miniS (hearN ⟨wr0, rd0, sh0, cl0, ov0, e0⟩ x) = (sh0, cl0, ov0, x.e)) := ⟨by simp [miniS, hearN, hearK, hearE, badB, *]⟩
                    go_wp2_with fail
                    go_roundw
                    case rel => exact ⟨j + 1, by go_num, hlt, ⟨by rw [HF.out, HM.out]; exact (HQ.out).setAt 0 rfl 5 (.int .i64 x.e)⟩⟩
                    case measure => simp [intOf] <;> omega
                · have HM : Keep (miniS (hearN ⟨wr0, rd0, sh0, cl0, ov0, e0⟩ x) = (sh0, cl0, ov0, x.e)) := ⟨by simp [miniS, hearN, hearK, hearE, badB, *]⟩
                  go_wp2_with fail
                  go_roundw
                  case rel => exact ⟨j + 1, by go_num, hlt, ⟨by rw [HF.out, HM.out]; exact (HQ.out).setAt 0 rfl 5 (.int .i64 x.e)⟩⟩
                  case measure => simp [intOf] <;> omega
            · have he : x.e = 11 := by simpa using hu
              cases cl0
              · obtain ⟨z, hz⟩ : ∃ b, (e0 == 0) = b := ⟨_, rfl⟩
                cases z
                · have HM : Keep (miniS (hearN ⟨wr0, rd0, sh0, false, ov0, e0⟩ x) = (sh0, false, true, e0)) := ⟨by simp [miniS, hearN, hearK, hearE, badB, *]⟩
                  go_wp2_with fail
                  go_roundw
                  case rel => exact ⟨j + 1, by go_num, hlt, ⟨by rw [HF.out, HM.out]; exact (HQ.out).setAt 0 rfl 4 (.bool true)⟩⟩
                  case measure => simp [intOf] <;> omega
                · have HM : Keep (miniS (hearN ⟨wr0, rd0, sh0, false, ov0, e0⟩ x) = (sh0, false, true, e0)) := ⟨by simp [miniS, hearN, hearK, hearE, badB, *]⟩
                  go_wp2_with fail
                  go_roundw
                  case rel => exact ⟨j + 1, by go_num, hlt, ⟨by rw [HF.out, HM.out]; exact (HQ.out).setAt 0 rfl 4 (.bool true)⟩⟩
                  case measure => simp [intOf] <;> omega
              · obtain ⟨z, hz⟩ : ∃ b, (e0 == 0) = b := ⟨_, rfl⟩
                cases z
                · have HM : Keep (miniS (hearN ⟨wr0, rd0, sh0, true, ov0, e0⟩ x) = (sh0, true, ov0, e0)) := ⟨by simp [miniS, hearN, hearK, hearE, badB, *]⟩
                  go_wp2_with fail
                  go_roundw
                  case rel => exact ⟨j + 1, by go_num, hlt, ⟨by rw [HF.out, HM.out]; exact HQ.out⟩⟩
                  case measure => simp [intOf] <;> omega
                · have HM : Keep (miniS (hearN ⟨wr0, rd0, sh0, true, ov0, e0⟩ x) = (sh0, true, ov0, e0)) := ⟨by simp [miniS, hearN, hearK, hearE, badB, *]⟩
                  go_wp2_with fail
                  go_roundw
                  case rel => exact ⟨j + 1, by go_num, hlt, ⟨by rw [HF.out, HM.out]; exact HQ.out⟩⟩
                  case measure => simp [intOf] <;> omega
          by_cases hk9 : x.k = 9
          · obtain ⟨u, hu⟩ : ∃ b, (x.e == 0) = b := ⟨_, rfl⟩
            cases u
            · have HM : Keep (miniS (hearN ⟨wr0, rd0, sh0, cl0, ov0, e0⟩ x) = (sh0, cl0, ov0, e0)) := ⟨by simp [miniS, hearN, hearK, hearE, badB, *]⟩
              go_wp2_with fail
              go_roundw
              case rel => exact ⟨j + 1, by go_num, hlt, ⟨by rw [HF.out, HM.out]; exact HQ.out⟩⟩
              case measure => simp [intOf] <;> omega
            · have HM : Keep (miniS (hearN ⟨wr0, rd0, sh0, cl0, ov0, e0⟩ x) = (true, cl0, ov0, e0)) := ⟨by simp [miniS, hearN, hearK, hearE, badB, *]⟩
              go_wp2_with fail
              go_roundw
              case rel => exact ⟨j + 1, by go_num, hlt, ⟨by rw [HF.out, HM.out]; exact (HQ.out).setAt 0 rfl 2 (.bool true)⟩⟩
              case measure => simp [intOf] <;> omega
          by_cases hk10 : x.k = 10
          · obtain ⟨u, hu⟩ : ∃ b, (x.e == 0) = b := ⟨_, rfl⟩
            cases u
            · have HM : Keep (miniS (hearN ⟨wr0, rd0, sh0, cl0, ov0, e0⟩ x) = (sh0, cl0, ov0, e0)) := ⟨by simp [miniS, hearN, hearK, hearE, badB, *]⟩
              go_wp2_with fail
              go_roundw
              case rel => exact ⟨j + 1, by go_num, hlt, ⟨by rw [HF.out, HM.out]; exact HQ.out⟩⟩
              case measure => simp [intOf] <;> omega
            · have HM : Keep (miniS (hearN ⟨wr0, rd0, sh0, cl0, ov0, e0⟩ x) = (true, true, ov0, e0)) := ⟨by simp [miniS, hearN, hearK, hearE, badB, *]⟩
              go_wp2_with fail
              go_roundw
              case rel => exact ⟨j + 1, by go_num, hlt, ⟨by rw [HF.out, HM.out]; exact ((HQ.out).setAt 0 rfl 2 (.bool true)).setAt 0 rfl 3 (.bool true)⟩⟩
              case measure => simp [intOf] <;> omega
          by_cases hk11 : x.k = 11
          · obtain ⟨u, hu⟩ : ∃ b, (x.e == 0) = b := ⟨_, rfl⟩
            cases u
            · have HM : Keep (miniS (hearN ⟨wr0, rd0, sh0, cl0, ov0, e0⟩ x) = (sh0, cl0, ov0, e0)) := ⟨by simp [miniS, hearN, hearK, hearE, badB, *]⟩
              go_wp2_with fail
              go_roundw
              case rel => exact ⟨j + 1, by go_num, hlt, ⟨by rw [HF.out, HM.out]; exact HQ.out⟩⟩
              case measure => simp [intOf] <;> omega
            · have HM : Keep (miniS (hearN ⟨wr0, rd0, sh0, cl0, ov0, e0⟩ x) = (sh0, true, ov0, e0)) := ⟨by simp [miniS, hearN, hearK, hearE, badB, *]⟩
              go_wp2_with fail
              go_roundw
              case rel => exact ⟨j + 1, by go_num, hlt, ⟨by rw [HF.out, HM.out]; exact (HQ.out).setAt 0 rfl 3 (.bool true)⟩⟩
              case measure => simp [intOf] <;> omega
          have g7 : (x.k == 7) = false := by simpa using hk7
          have g8 : (x.k == 8) = false := by simpa using hk8
          have g9 : (x.k == 9) = false := by simpa using hk9
          have g10 : (x.k == 10) = false := by simpa using hk10
          have g11 : (x.k == 11) = false := by simpa using hk11
          have HM : Keep (miniS (hearN ⟨wr0, rd0, sh0, cl0, ov0, e0⟩ x) = (sh0, cl0, ov0, e0)) := ⟨by simp [miniS, hearN, hearK, hearE, badB, *]⟩
          go_wp2_with fail
          go_roundw
          case rel => exact ⟨j + 1, by go_num, hlt, ⟨by rw [HF.out, HM.out]; exact HQ.out⟩⟩
          case measure => simp [intOf] <;> omega
          -- end gen
        · obtain rfl : j = own.length := by omega
          have HE : Keep (foldS (own.take own.length) = foldS own) := ⟨by rw [List.take_length]⟩
          rw [HE.out] at HQ
          have f0 : wr.cell? ⟨w2.heap.size, 0, none⟩ = some (.slice A5 (allN s 7 h own).length c5) := HQ.out.bk.c 0
          have f1 : wr.cell? ⟨w2.heap.size, 1, none⟩ = some (.slice A6 (allN s 8 h own).length c6) := HQ.out.bk.c 1
          have f2 : wr.cell? ⟨w2.heap.size, 2, none⟩ = some (.bool (foldS own).sh) := HQ.out.bk.c 2
          have f3 : wr.cell? ⟨w2.heap.size, 3, none⟩ = some (.bool (foldS own).cl) := HQ.out.bk.c 3
          have f4 : wr.cell? ⟨w2.heap.size, 4, none⟩ = some (.bool (foldS own).ov) := HQ.out.bk.c 4
          have f5 : wr.cell? ⟨w2.heap.size, 5, none⟩ = some (.int .i64 (foldS own).e) := HQ.out.bk.c 5
          go_wp2_with (first
            | (refine wpList_putrow 5 w.heap.size (refC (.slice A5 (allN s 7 h own).length c5) (.slice A6 (allN s 8 h own).length c6) (miniS (foldS own))) rfl 37 (.tmp 8) (.tmp 155) rfl HQ.out rfl rfl rfl (by kernel_rfl) rfl (by simp [Value.oneCell']) ?_
               intro w5 h5
               have K5 := Keep.mk h5
               clear h5)
            | fail)
          refine bodyPost_ret (results_cell_row Tryz.results9 _ _ w.heap.size 37 _ (0, 0) _ rfl (K5.out.bkAt 5 rfl).eq Tryz.underlying37 rfl (by kernel_rfl)) rfl ⟨A5, c5, A6, c6, by rw [HOW.out], ?_⟩
          rw [HOW.out]
          exact (((K5.out.rm 5 rfl).rm 2 rfl).rm 0 rfl).to 2 rfl
end
end Go.Proofs.YtjpokeakemlffaaGreatDoor
/-
  The plain law: what a log's streams are.
-/
namespace Go.Proofs.YtjpokeakemlffaaGreatDoor
open Go.RowKit Go.Maps
def lkS (n : Int × Int) : List ((Int × Int) × StS) → Option StS
  | [] => none
  | p :: m => if p.1 = n then some p.2 else lkS n m
theorem isNm_iff {n : Int × Int} {x : Td} : isNm n x = true ↔ x.nm = n := by
  obtain ⟨a, b⟩ := n
  simp [isNm, Td.nm]
theorem isB_iff {x : Td} : isB x = true ↔ isBeg x := by simp [isB, isBeg]
theorem lkS_append (n : Int × Int) : ∀ (m : List ((Int × Int) × StS)) (p : (Int × Int) × StS), lkS n (m ++ [p]) = match lkS n m with | some t => some t | none => if p.1 = n then some p.2 else none
  | [], p => by simp [lkS]
  | q :: m, p => by
    rw [List.cons_append, lkS, lkS_append n m p, lkS]
    by_cases e : q.1 = n
    · rw [if_pos e, if_pos e]
    · rw [if_neg e, if_neg e]
theorem lkS_map (n : Int × Int) (x : Td) : ∀ (m : List ((Int × Int) × StS)), lkS n (m.map fun p => if p.1 = x.nm then (p.1, hearN p.2 x) else p) = (lkS n m).map fun t => if n = x.nm then hearN t x else t
  | [] => rfl
  | p :: m => by
    rw [List.map_cons, lkS, lkS, lkS_map n x m]
    by_cases e : p.1 = x.nm
    · rw [if_pos e]
      by_cases e2 : p.1 = n
      · rw [if_pos e2, if_pos e2]; simp [← e2, e]
      · rw [if_neg e2, if_neg e2]
    · rw [if_neg e]
      by_cases e2 : p.1 = n
      · rw [if_pos e2, if_pos e2]; simp [← e2, e]
      · rw [if_neg e2, if_neg e2]
theorem lkS_none {n : Int × Int} : ∀ {m : List ((Int × Int) × StS)}, lkS n m = none ↔ ∀ p ∈ m, p.1 ≠ n
  | [] => by simp [lkS]
  | p :: m => by
    rw [lkS]
    by_cases e : p.1 = n
    · simp [e]
    · rw [if_neg e, lkS_none (m := m)]; simp [e]
theorem lkS_step (n : Int × Int) (m : List ((Int × Int) × StS)) (x : Td) : lkS n (stepL m x) = if n = x.nm then (match lkS n m with | some t => some (hearN t x) | none => if isB x = true then some (hearN noSt x) else none) else lkS n m := by
  unfold stepL
  rw [lkS_map]
  by_cases e : n = x.nm
  · subst e
    rw [if_pos rfl]
    by_cases hb : isBeg x ∧ ∀ p ∈ m, p.1 ≠ x.nm
    · rw [if_pos hb, lkS_append, lkS_none.2 hb.2]
      simp [isB_iff.2 hb.1]
    · rw [if_neg hb]
      cases hl : lkS x.nm m with
      | some t => simp
      | none =>
        have : ¬ isBeg x := fun h => hb ⟨h, lkS_none.1 hl⟩
        have h2 : isB x = false := by cases h : isB x with | false => rfl | true => exact absurd (isB_iff.1 h) this
        simp [h2]
  · rw [if_neg e]
    have hm : (lkS n (if isBeg x ∧ ∀ p ∈ m, p.1 ≠ x.nm then m ++ [(x.nm, noSt)] else m)) = lkS n m := by
      split
      · rw [lkS_append]
        cases lkS n m with
        | some t => rfl
        | none => simp [Ne.symm e]
      · rfl
    rw [hm]
    cases lkS n m <;> simp [e]
theorem begN_ge (n : Int × Int) : ∀ l : List Td, begN n l = -1 ∨ 0 ≤ begN n l ∧ begN n l < l.length
  | [] => .inl rfl
  | x :: l => by
    rw [begN]
    by_cases e : (isNm n x && isB x) = true
    · rw [if_pos e]; right; simp
    · rw [if_neg e]
      rcases begN_ge n l with h | h
      · left; rw [if_pos (by omega)]
      · right; rw [if_neg (by omega)]; simp; omega
theorem begN_snoc (n : Int × Int) (x : Td) : ∀ l : List Td, begN n (l ++ [x]) = if begN n l < 0 then (if (isNm n x && isB x) = true then (l.length : Int) else -1) else begN n l
  | [] => by
    simp only [List.nil_append, begN]
    split <;> simp
  | y :: l => by
    have ih := begN_snoc n x l
    rw [List.cons_append, begN, begN]
    by_cases e : (isNm n y && isB y) = true
    · simp [e]
    · rw [if_neg e, if_neg e, ih]
      rcases begN_ge n l with h | h
      · have h1 : begN n l < 0 := by omega
        simp only [if_pos h1]
        by_cases e2 : (isNm n x && isB x) = true
        · rw [if_pos e2, if_pos e2, if_neg (by omega), if_pos (by decide)]; simp
        · rw [if_neg e2, if_neg e2]; rfl
      · have h1 : ¬ begN n l < 0 := by omega
        simp only [if_neg h1]
        rw [if_neg (by omega)]
theorem ownN_snoc (n : Int × Int) (x : Td) (l : List Td) {i : Nat} (hi : i ≤ l.length) : ownN n i (l ++ [x]) = ownN n i l ++ if isNm n x = true then [x] else [] := by
  unfold ownN
  rw [List.drop_append_of_le_length hi, List.filter_append]
  congr 1
  by_cases e : isNm n x = true
  · simp [List.filter, e]
  · rw [Bool.not_eq_true] at e; simp [List.filter, e]
theorem foldS_snoc (a : List Td) (x : Td) : foldS (a ++ [x]) = hearN (foldS a) x := by simp [foldS, List.foldl_append]
theorem log_spec (n : Int × Int) : ∀ k : Nat, ∀ l : List Td, l.length = k → lkS n (logN l) = if begN n l < 0 then none else some (foldS (ownN n (begN n l).toNat l))
  | 0, l, hk => by
    obtain rfl := List.eq_nil_of_length_eq_zero hk
    rfl
  | k + 1, l, hk => by
    obtain ⟨r, x, rfl⟩ : ∃ r x, l = r ++ [x] := ⟨l.take k, l[k]'(by omega), by
      conv => lhs; rw [← List.take_append_drop k l]
      rw [List.drop_eq_getElem_cons (by omega), List.drop_eq_nil_of_le (by omega)]⟩
    have ih := log_spec n k r (by simpa using hk)
    have hs : logN (r ++ [x]) = stepL (logN r) x := by simp [logN, List.foldl_append]
    rw [hs, lkS_step, ih, begN_snoc]
    have hnm : n = x.nm ↔ isNm n x = true := ⟨fun e => isNm_iff.2 e.symm, fun e => (isNm_iff.1 e).symm⟩
    rcases begN_ge n r with h | h
    · have h1 : begN n r < 0 := by omega
      simp only [if_pos h1]
      by_cases e : n = x.nm
      · rw [if_pos e, hnm.1 e, Bool.true_and]
        by_cases hb : isB x = true
        · have h2 : ¬ ((r.length : Int) < 0) := by omega
          simp only [if_pos hb, if_neg h2]
          rw [Int.toNat_natCast, ownN_snoc n x r (Nat.le_refl _), if_pos (hnm.1 e)]
          have : ownN n r.length r = [] := by unfold ownN; rw [List.drop_length]; rfl
          rw [this]; rfl
        · simp only [if_neg hb]; rfl
      · rw [if_neg e]
        have : isNm n x = false := by cases h : isNm n x with | false => rfl | true => exact absurd (hnm.2 h) e
        rw [this, Bool.false_and]; rfl
    · have h1 : ¬ begN n r < 0 := by omega
      simp only [if_neg h1]
      rw [ownN_snoc n x r (by omega)]
      by_cases e : n = x.nm
      · rw [if_pos e, if_pos (hnm.1 e), foldS_snoc]
      · rw [if_neg e]
        have : isNm n x = false := by cases h : isNm n x with | false => rfl | true => exact absurd (hnm.2 h) e
        rw [this, if_neg (by decide), List.append_nil]
theorem lkS_item {n : Int × Int} : ∀ {l1 l2 : List It} {z : It}, z.nm = n → (∀ y ∈ l1, y.nm ≠ n) → lkS n (plainI (l1 ++ z :: l2)) = some z.t
  | [], l2, z, hz, _ => by rw [List.nil_append]; unfold plainI; rw [List.map_cons, lkS, if_pos hz]
  | y :: l1, l2, z, hz, h => by
    rw [List.cons_append]
    unfold plainI
    rw [List.map_cons, lkS, if_neg (h y (by simp))]
    exact lkS_item (l1 := l1) hz fun q hq => h q (by simp [hq])
theorem fold_wr (s h : Int) : ∀ (own : List Td) (t : StS), (∀ x ∈ own, isNm (s, h) x = true) → (own.foldl hearN t).wr = t.wr ++ allN s 7 h own ∧ (own.foldl hearN t).rd = t.rd ++ allN s 8 h own
  | [], t, _ => by simp [allN]
  | x :: own, t, H => by
    obtain ⟨i1, i2⟩ := fold_wr s h own (hearN t x) fun y hy => H y (by simp [hy])
    rw [List.foldl_cons, i1, i2]
    have hx := H x (by simp)
    simp only [isNm, Bool.and_eq_true] at hx
    unfold allN
    rw [List.filter_cons, List.filter_cons, hx.1, hx.2]
    unfold hearN hearK
    by_cases e7 : x.k = 7
    · simp [e7]
    · by_cases e8 : x.k = 8
      · simp [e8]
      · by_cases e9 : x.k = 9
        · simp [e9]
        · by_cases e10 : x.k = 10
          · simp [e10]
          · by_cases e11 : x.k = 11
            · simp [e11]
            · simp [e7, e8, e9, e10, e11]
theorem fold_wr0 (s h : Int) (i : Nat) (l : List Td) : (foldS (ownN (s, h) i l)).wr = allN s 7 h (ownN (s, h) i l) ∧ (foldS (ownN (s, h) i l)).rd = allN s 8 h (ownN (s, h) i l) := by
  have := fold_wr s h (ownN (s, h) i l) noSt fun x hx => (List.mem_filter.1 hx).2
  exact ⟨by rw [foldS, this.1]; rfl, by rw [foldS, this.2]; rfl⟩
end Go.Proofs.YtjpokeakemlffaaGreatDoor
