/-
  Is what was due alike? A number that is held. The earliest tick.
-/
import Derived.Lib.MinMax
import Derived.Maps.RangeWalk
import Derived.Test.YtmjmiadogniopaaRfD
namespace Go.Proofs.Ytmjmiadogniopaa
open Go.RowKit Go.Maps

theorem near_any (n : Int) (w : World) : Calls Try.prog 16 #[.int .i64 n] w fun e w' => e = .returned (.int .i64 (min (max n (-1125899906842624)) 1125899906842624)) ∧ w' = w := by
  go_enter Try.func16, Try.ntmps16
  go_wp2
  go_ret
  exact ⟨rfl, rfl⟩

set_option maxRecDepth 100000 in
set_option maxHeartbeats 3200000 in
theorem samedue_any (A : Option Addr) (cA : Nat) (B : Option Addr) (cB : Nat) (O : List Due) (w : World) (ha : Rd w w.heap.size 2 dueC A O) (hb : Rd w w.heap.size 2 dueC B O) (hO : O.length ≤ 100000) :
    Calls Try.prog 19 #[.slice A O.length cA, .slice B O.length cB] w fun e w' => e = .returned (.bool true) ∧ Below w.heap.size w w' := by
  have HA := Lib.hid ha
  have HB := Lib.hid hb
  clear ha hb
  go_enter Try.func19, Try.ntmps19
  go_wp2
  go_loopw [13] (fun i wr => ∃ k : Nat, k ≤ O.length ∧ i = .int .i64 k ∧ ∃ q, wr = w.drewN q) (fun i _ => O.length - (intOf i).toNat)
  case atStart => exact ⟨0, by omega, rfl, 0, rfl⟩
  case round =>
    obtain ⟨k, hk, rfl, q, hq⟩ := hrel
    have HQ := Keep.mk hq
    clear hq
    by_cases hkl : k < O.length
    · obtain ⟨⟨d1, d2⟩, hd⟩ : ∃ d, O[k] = d := ⟨_, rfl⟩
      have hOd : O[k]? = some (d1, d2) := by rw [List.getElem?_eq_getElem hkl, hd]
      obtain ⟨g9, o9, e9, hg9, hc9⟩ := HA.out (List.ne_nil_of_length_pos (by omega))
      obtain ⟨g5, o5, e5, hg5, hc5⟩ := HB.out (List.ne_nil_of_length_pos (by omega))
      have p0 : wr.cell? ⟨g9, o9 + k * 2, none⟩ = some (.int .i64 d1) := by rw [HQ.out]; exact hc9 k _ hOd 0 _ rfl
      have p1 : wr.cell? ⟨g9, o9 + k * 2 + 1, none⟩ = some (.int .i64 d2) := by rw [HQ.out]; exact hc9 k _ hOd 1 _ rfl
      have p2 : wr.cell? ⟨g5, o5 + k * 2, none⟩ = some (.int .i64 d1) := by rw [HQ.out]; exact hc5 k _ hOd 0 _ rfl
      have p3 : wr.cell? ⟨g5, o5 + k * 2 + 1, none⟩ = some (.int .i64 d2) := by rw [HQ.out]; exact hc5 k _ hOd 1 _ rfl
      subst e9
      subst e5
      have hki : ((k : Nat) : Int) < (O.length : Int) := by omega
      clear hc9 hc5 hg9 hg5 hd hOd
      go_wp2_with fail
      go_quiet (fail)
      go_wp2_with fail
      go_roundw
      case rel => exact ⟨k + 1, by omega, by go_num, q + nq, by rw [HQ.out]; exact World.drewN_drewN _ _ _⟩
      case measure => simp [intOf] <;> omega
    · have hke : k = O.length := by omega
      subst hke
      go_wp2
      go_ret
      exact ⟨rfl, by rw [HQ.out]; exact ⟨rfl, rfl, rfl, Nat.le_refl _, fun _ _ => rfl⟩⟩

/-- The least of the ticks met so far. -/
def Nx (L : List Due) (left : Lit → Bool) (best : Int) : Prop :=
  (best = -1 ∧ ∀ x t, tk L x = some t → left (.int .i64 x) = true) ∨ (0 ≤ best ∧ (∃ x0, tk L x0 = some best) ∧ ∀ x t, tk L x = some t → left (.int .i64 x) = false → best ≤ t)
theorem Nx.step {L : List Due} {left : Lit → Bool} {best best' : Int} (h : Nx L left best) {x c : Int} (hx : tk L x = some c) (hc : 0 ≤ c) (hb : best' = if best < 0 ∨ c < best then c else best) : Nx L (fun z => left z && !z.sameKey (.int .i64 x)) best' := by
  have hk : ∀ y, (left (.int .i64 y) && !(Lit.int .i64 y).sameKey (.int .i64 x)) = false → left (.int .i64 y) = false ∨ y = x := fun y hy => by
    by_cases e : y = x
    · exact .inr e
    · have : (Lit.int .i64 y).sameKey (.int .i64 x) = false := by
        cases hs : (Lit.int .i64 y).sameKey (.int .i64 x) with
        | false => rfl
        | true => exact absurd hs (by simp [Lit.sameKey, e])
      rw [this] at hy
      exact .inl (by simpa using hy)
  rcases h with ⟨h1, h2⟩ | ⟨h0, h1, h2⟩
  · rw [if_pos (.inl (by omega))] at hb
    subst hb
    refine .inr ⟨hc, ⟨x, hx⟩, fun y t hy hl => ?_⟩
    rcases hk y hl with h3 | rfl
    · rw [h2 y t hy] at h3; cases h3
    · rw [hx] at hy; cases hy; exact Int.le_refl _
  · by_cases hcb : c < best
    · rw [if_pos (.inr hcb)] at hb
      subst hb
      refine .inr ⟨hc, ⟨x, hx⟩, fun y t hy hl => ?_⟩
      rcases hk y hl with h3 | rfl
      · have := h2 y t hy h3; omega
      · rw [hx] at hy; cases hy; exact Int.le_refl _
    · rw [if_neg (by omega)] at hb
      subst hb
      refine .inr ⟨h0, h1, fun y t hy hl => ?_⟩
      rcases hk y hl with h3 | rfl
      · exact h2 y t hy h3
      · rw [hx] at hy; cases hy; omega
theorem Nx.done {L : List Due} {left : Lit → Bool} {best : Int} (h : Nx L left best) (hl : ∀ z, left z = false) (hn : (L.map (·.1)).Nodup) (hne : L ≠ []) : ∃ d ∈ L, d.2 = best ∧ ∀ x ∈ L, best ≤ x.2 := by
  rcases h with ⟨_, h2⟩ | ⟨_, ⟨x0, h1⟩, h2⟩
  · obtain ⟨d, hd⟩ := List.exists_mem_of_ne_nil L hne
    have := h2 d.1 d.2 (tk_mem hn hd)
    rw [hl] at this
    cases this
  · exact ⟨_, tk_some h1, rfl, fun x hx => h2 x.1 x.2 (tk_mem hn hx) (hl _)⟩

set_option maxRecDepth 100000 in
set_option maxHeartbeats 3200000 in
theorem next_wl {base b m nb : Nat} {S : Nat → Value} {now : Int} {L : List Due} {w : World} (h : Wl w base b m nb S now L) (hn : 0 ≤ now) :
    Calls Try.prog 21 #[.pointer (some ⟨b, 0, none⟩)] w fun e w' => ∃ (c : Int) (is : Bool), e = .returned (.tuple #[.int .i64 c, .bool is]) ∧ (L = [] → is = false) ∧ (L ≠ [] → is = true ∧ ∃ d ∈ L, d.2 = c ∧ ∀ x ∈ L, c ≤ x.2) ∧ Below w.heap.size w w' := by
  have hnd := h.nodup
  have hrng := h.rng
  obtain ⟨N, hW, hI⟩ := h.ex
  have hc := hW.st.mapC
  obtain ⟨D, hown, hhas, hat0, hsz⟩ := hW.mp
  have hl : ∀ ty, (Builtin.len_ #[64] ty #[.map (some m)]).run Try.prog w = .ok (.int .i64 L.length) w := fun ty => by
    rw [← hsz]
    exact hown.len Try.underlying64 ty
  have HAS := Lib.hid hhas
  have HAT := Lib.hid hat0
  have HND := Keep.mk hnd
  have HRG := Keep.mk hrng
  clear h hW hI hsz hhas hat0 hnd hrng
  cases L with
  | nil =>
    clear hown
    go_enter Try.func21, Try.ntmps21
    go_wp2_with fail
    refine bodyPost_ret (results_tmp2 rfl _ _ _) rfl ?_
    exact ⟨_, false, rfl, fun _ => rfl, fun h => absurd rfl h, Below.refl _ _⟩
  | cons d0 r0 =>
    obtain ⟨L, hL⟩ : ∃ L, d0 :: r0 = L := ⟨_, rfl⟩
    have hne : L ≠ [] := by rw [← hL]; simp
    have hlb : ((L.length : Int) == 0) = false := by rw [← hL]; simp; omega
    rw [hL] at hl HAS HAT HND HRG
    rw [hL]
    clear hL
    have HNE := Keep.mk hne
    clear hne
    go_enter Try.func21, Try.ntmps21
    go_wp2_with (first
      | (at_range; refine wpList_range_own _ rfl _ 64 rfl 3 3 keyed Try.underlying64 _ m _ _ rfl hown ?_; intro w0 hrg0 hg0 hs0)
      | fail)
    go_frame
    have HB0 : Keep (Below w.heap.size w w0) := ⟨hg0.os, hg0.tape, hg0.output, hg0.size, fun k hk => hg0.block k hk (by simp)⟩
    have HNX0 : Keep (Nx L (Maps.has D) (-1)) := ⟨.inl ⟨rfl, fun x t hx => by rw [HAS.out, hx]; rfl⟩⟩
    clear hg0 hs0
    go_loopw [4] (fun best wr => ∃ (bi : Int) (left : Lit → Bool) (cnt : Nat), best = .int .i64 bi ∧ wr.ranges Try.prog 3 (plainElem Try.prog 3) m w.heap.size nb D left cnt ∧ Keep (Nx L left bi) ∧ Keep (Below w.heap.size w wr)) (fun _ wr => wr.rangeLeft m w.heap.size)
    case atStart => exact ⟨-1, _, _, rfl, hrg0, HNX0, HB0⟩
    case round =>
      obtain ⟨bi, left, cnt, rfl, hrg, HNX, HBW⟩ := hrel
      go_wp2_with (first
        | (at_next; refine wpList_next_ranges_ii _ rfl _ rfl 3 3 .i64 .i64 keyed Try.underlying3 Try.underlying3 m w.heap.size nb _ _ _ rfl hrg ?_ ?_)
        | go_in)
      · intro _ hl0
        go_wp2
        refine bodyPost_ret (results_tmp2 rfl _ _ _) rfl ?_
        exact ⟨bi, true, rfl, fun h => absurd h HNE.out, fun _ => ⟨rfl, HNX.out.done hl0 HND.out HNE.out⟩, HBW.out⟩
      · intro x c w1 cnt1 hwx hwc hlx hat hrg1 hlt hg1 hs1 hen
        have hx : tk L x = some c := by
          have h1 : Maps.has D (.int .i64 x) = true := by
            cases h : Maps.has D (.int .i64 x) with
            | true => rfl
            | false =>
              have a := hat (.lit (.int .i64 (c + 1)))
              rw [atKey_of_not_has h] at a
              injection a with a
              injection a with _ a
              omega
          rw [HAS.out] at h1
          obtain ⟨t, ht⟩ := Option.isSome_iff_exists.1 h1
          have a := hat (.lit (.int .i64 0))
          rw [HAT.out x t ht] at a
          injection a with a
          injection a with _ a
          rw [ht, a]
        have hc0 : 0 ≤ c := by have := (HRG.out _ (tk_some hx)).1; simp only at this; omega
        have HSTEP : Keep (∀ b', b' = (if bi < 0 ∨ c < bi then c else bi) → Nx L (fun z => left z && !z.sameKey (.int .i64 x)) b') := ⟨fun b' e => HNX.out.step hx hc0 e⟩
        have HB1 : Keep (Below w.heap.size w w1) := ⟨HBW.out.trans ⟨hg1.os, hg1.tape, hg1.output, hg1.size, fun k hk => hg1.block k (by have := HBW.out.size; omega) (by simp; omega)⟩⟩
        have HLE := Keep.mk hlt
        have HRO := Keep.mk hrg
        have HR1 := Keep.mk hrg1
        clear hx hc0 hat hg1 hs1 hlx hwx hwc hlt hrg hrg1
        by_cases h1 : bi < 0
        · go_wp2
          go_roundw
          case rel => exact ⟨_, _, cnt1, rfl, HR1.out, ⟨HSTEP.out c (by rw [if_pos (.inl h1)])⟩, HB1⟩
          case measure => rw [HR1.out.left_eq, HRO.out.left_eq]; exact HLE.out
        · by_cases h2 : c < bi
          · go_wp2
            go_roundw
            case rel => exact ⟨_, _, cnt1, rfl, HR1.out, ⟨HSTEP.out c (by rw [if_pos (.inr h2)])⟩, HB1⟩
            case measure => rw [HR1.out.left_eq, HRO.out.left_eq]; exact HLE.out
          · go_wp2
            go_roundw
            case rel => exact ⟨_, _, cnt1, rfl, HR1.out, ⟨HSTEP.out bi (by rw [if_neg (by omega)])⟩, HB1⟩
            case measure => rw [HR1.out.left_eq, HRO.out.left_eq]; exact HLE.out
end Go.Proofs.Ytmjmiadogniopaa
