/-
  The contract of script.Get.
-/
import Derived.Shelf.RegionOpen
import Derived.Laws.BitsLemmas
import Derived.Test.YtmiannlghigagaaFours
namespace Go.Proofs.Ytmiannlghigagaa
open Go.RowKit Go.Shelf
attribute [local go_sem] Oper.semAt_some

def entOf (x : Quad) : Ent := ⟨x.1 / 2 % 16, x.1 % 2, x.2.1, x.2.2.1, x.2.2.2⟩
theorem getS_quads : ∀ zs : List Int, getS zs = (quads zs).map entOf
  | a :: b :: c :: d :: r => by rw [getS, quads, List.map_cons, getS_quads r]; rfl
  | [] => rfl
  | [_] => by simp [quads, getS]
  | [_, _] => by simp [quads, getS]
  | [_, _, _] => by simp [quads, getS]

theorem fours_in (F : Fence) (n : Nat) (hF : F.fn 16) (hro : F.round = none) (a : Option Addr) (len cap : Nat) (w : World) :
    CallsIn F n Try.prog 16 #[.slice a len cap] w fun e w' => e = .returned (.func (.func 19) #[] #[.pointer (some ⟨w.heap.size, 0, none⟩)]) ∧ w' = w.alloc (.cells #[.slice a len cap] 22) := by
  refine callsIn_of_wp Try.func16 rfl hF ?_ hro
  simp only [Try.ntmps16, List.size_toArray, List.length_cons, List.length_nil, Nat.reduceAdd, Nat.reduceSub, Array.replicate_succ, Array.replicate_zero, List.push_toArray, List.append_toArray, List.nil_append, List.cons_append]
  gi_wp2
  go_ret
  exact ⟨rfl, rfl⟩

theorem quads_mem : ∀ {zs : List Int} {a b c d : Int}, (a, b, c, d) ∈ quads zs → a ∈ zs ∧ b ∈ zs ∧ c ∈ zs ∧ d ∈ zs
  | x :: y :: z :: t :: r, a, b, c, d, h => by
    rw [quads, List.mem_cons] at h
    rcases h with h | h
    · simp only [Prod.mk.injEq] at h
      obtain ⟨rfl, rfl, rfl, rfl⟩ := h
      simp
    · obtain ⟨h1, h2, h3, h4⟩ := quads_mem h
      exact ⟨by simp [h1], by simp [h2], by simp [h3], by simp [h4]⟩
  | [], _, _, _, _, h => by simp [quads] at h
  | [_], _, _, _, _, h => by simp [quads] at h
  | [_, _], _, _, _, _, h => by simp [quads] at h
  | [_, _, _], _, _, _, _, h => by simp [quads] at h

set_option maxRecDepth 100000 in
set_option maxHeartbeats 2000000 in
theorem get_in (A : Option Addr) (zs : List Int) (ca : Nat) (w : World) (hl : Rd w w.heap.size 1 encB A zs) (h1 : zs.length ≤ 100000) (hcap : zs.length ≤ ca) (hall : ∀ z ∈ zs, 0 ≤ z ∧ z ≤ 255) :
    CallsIn Fence.wide 5 Try.prog 8 #[.slice A zs.length ca] w fun r w' => ∃ v, r = .returned v ∧ w'.ownsRow w.heap.size 27 5 v (getS zs).length ((getS zs).flatMap Ent.cells) ∧ Below w.heap.size w w' := by
  obtain ⟨i0, hi, hz0, hz1, hz2⟩ := info_parts infoEnt
  have hF : ∀ f, Fence.wide.fn f := fun _ => trivial
  refine callsIn_of_wp_marks Try.func8 rfl (hF _) ?_ rfl
  simp only [Try.ntmps8, List.size_toArray, List.length_cons, List.length_nil, Nat.reduceAdd, Nat.reduceSub, Array.replicate_succ, Array.replicate_zero, List.push_toArray, List.append_toArray, List.nil_append, List.cons_append]
  gi_wp2_with (gi_at_call 16; refine (fours_in Fence.wide _ (hF _) rfl _ _ _ _).mono ?_; rintro e w' ⟨rfl, rfl⟩)
  have bO := Boxed.new w 24 (.slice none 0 0)
  have bN := Boxed.new (w.alloc (.cells #[.slice none 0 0] 24)) 22 (.slice A zs.length ca)
  rw [World.size_alloc] at bN
  have hB0 : Below w.heap.size w ((w.alloc (.cells #[.slice none 0 0] 24)).alloc (.cells #[.slice A zs.length ca] 22)) := ((Below.refl _ w).alloc (Nat.le_refl _) _).alloc (by simp) _
  refine wpIn_rangeBox rfl (by decide) (gf := 19) (lb := #[.pointer (some ⟨w.heap.size + 1, 0, none⟩)]) rfl (hF _) (enters_of Try.func19 (by kernel_rfl) rfl)
    (fours1_in Fence.wide _ (hF _) rfl (by decide) (w.heap.size + 1) w.heap.size (by omega) zs)
    (fun h k => ⟨h.1.trans k.1, k.2.trans h.2⟩)
    (fun W l o o' hlo ho hoc => ⟨(Below.refl _ W).grown (grownBy_putObj' W l o') (by have := (Array.getElem?_eq_some_iff.1 ho).1; simp at hlo; omega) (fun k e => by cases e; simp at hlo; omega), World.putObj_heap_other (by simp at hlo; omega)⟩)
    (fun r => ⟨A, ca, (bN.alloc _).alloc _, hcap, ((hl.below hB0).alloc (by simp; omega) _).alloc (by simp; omega) _⟩) (fun _ => rfl)
    (fun pre W => (∃ v, Boxed W w.heap.size 24 v ∧ W.ownsRow w.heap.size 27 5 v pre.length ((pre.map entOf).flatMap Ent.cells)) ∧ (∃ u, Boxed W (w.heap.size + 1) 22 u) ∧ Below w.heap.size w W)
    ?own ?stab ⟨⟨_, bO.alloc _, World.ownsRow_nil _ _ _ _⟩, ⟨_, bN⟩, hB0⟩
    (fun x a W => ∃ Bx, w.heap.size + 1 < Bx ∧ W.heap[Bx]? = some (.cells #[.int .u8 x.1, .int .u8 x.2.1, .int .u8 x.2.2.1, .int .u8 x.2.2.2] 42 (0, 0)) ∧ a = { tmps := #[.slice A zs.length ca, undef, .slice none 0 0, .pointer (some ⟨w.heap.size, 0, none⟩), .pointer (some ⟨Bx, 0, none⟩), .slice A zs.length ca, .func (.func 19) #[] #[.pointer (some ⟨w.heap.size + 1, 0, none⟩)], .agg #[.int .u8 x.1, .int .u8 x.2.1, .int .u8 x.2.2.1, .int .u8 x.2.2.2], undef, undef, undef, undef, undef, undef, undef, undef, undef, undef, undef, undef, undef, undef, undef, undef, undef, undef, undef, undef, undef, undef, undef], defers := [] })
    ?ownAx ?assign ?body ?done
  case own =>
    rintro s W W' row ⟨⟨v, hv, hr⟩, ⟨u, hu⟩, hb⟩ hg hrow
    have hne : ∀ (B t : Nat) (x : Value), Boxed W B t x → some B ≠ row := fun B t x hx e => by
      obtain ⟨_, o, ho, hc⟩ := hrow B e.symm
      rw [show W.heap[B]? = _ from hx] at ho
      cases ho
      cases hc
    refine ⟨⟨v, hv.kept hg (hne _ _ _ hv), hr.kept hg ?_⟩, ⟨u, hu.kept hg (hne _ _ _ hu)⟩, hb.grown hg hb.size (fun k e => by have := (hrow k e).1; simp at this; omega)⟩
    rcases hr.2 with ⟨rfl, _⟩ | ⟨g, cap, cur, rfl, _, hh, _⟩
    · exact .inl rfl
    · refine .inr fun e => ?_
      obtain ⟨_, o, ho, hc⟩ := hrow g e.symm
      rw [hh] at ho
      cases ho
      cases hc
  case stab =>
    rintro s V v ⟨⟨v', hv, hr⟩, ⟨u, hu⟩, hb⟩
    exact ⟨⟨v', hv.other (by omega) _, ownsRow_setCell_other hr (Ne.symm (hu.not_row (by decide) hr)) _⟩, ⟨_, hu.set _⟩, hb.setCell (p := ⟨w.heap.size + 1, 0, none⟩) (by simp) _⟩
  case ownAx =>
    rintro x a s W W' row ⟨Bx, hlt, hx, rfl⟩ hg hrow
    refine ⟨Bx, hlt, (hg.block Bx (lt_of_block hx) fun e => ?_).trans hx, rfl⟩
    obtain ⟨_, o, ho, hc⟩ := hrow Bx e.symm
    rw [hx] at ho
    cases ho
    cases hc
  case assign =>
    rintro l pre x W ⟨⟨v, hv, hr⟩, ⟨u, hu⟩, hb⟩ hp
    have hbs := hb.size
    simp only [encQ]
    gi_wp2
    refine ⟨(KeepsOthers.alloc _ _).from _, ⟨(Below.refl _ _).alloc hbs _, (Below.heap_alloc _ _ _ hu.lt)⟩, ⟨⟨v, hv.alloc _, hr.alloc _⟩, ⟨u, hu.alloc _⟩, hb.alloc hbs _⟩, W.heap.size, by have := hu.lt; omega, ?_, ?_⟩
    · exact World.alloc_heap_new _ _
    · rfl
  case body =>
    rintro l pre ⟨x, y, z, t⟩ a W ⟨⟨v, hv, hr⟩, ⟨u, hu⟩, hb⟩ ⟨Bx, hlt, hx, rfl⟩ hp
    obtain ⟨m0, m1, m2, m3⟩ := quads_mem (hp.mem (List.mem_append_right _ (List.mem_singleton.2 rfl)))
    have hpl : pre.length + 1 ≤ 100000 := by
      have := hp.length_le
      rw [quads_length, List.length_append, List.length_singleton] at this
      omega
    obtain ⟨a0, a1⟩ := hall x m0
    obtain ⟨b0, b1⟩ := hall y m1
    obtain ⟨c0, c1⟩ := hall z m2
    obtain ⟨d0, d1⟩ := hall t m3
    have hc := hv.cell
    have hbs := hb.size
    have x0 : W.cell? ⟨Bx, 0, none⟩ = some (.int .u8 x) := by rw [cell_of_row W Bx 0 _ _ _ hx]; rfl
    have x1 : W.cell? ⟨Bx, 1, none⟩ = some (.int .u8 y) := by rw [cell_of_row W Bx 1 _ _ _ hx]; rfl
    have x2 : W.cell? ⟨Bx, 2, none⟩ = some (.int .u8 z) := by rw [cell_of_row W Bx 2 _ _ _ hx]; rfl
    have x3 : W.cell? ⟨Bx, 3, none⟩ = some (.int .u8 t) := by rw [cell_of_row W Bx 3 _ _ _ hx]; rfl
    have hand : bits .and .u8 x 1 = x % 2 := bits_mask .u8 8 (by decide) wraps_u8 1 (by decide) x a0 (by omega)
    clear hall hl hp m0 m1 m2 m3
    gi_wp2_with (gi_at_builtin; go_loud (refine wpListIn_append_own _ rfl _ _ 24 rfl w.heap.size 27 i0 _ 5 40 Try.underlying24 hi hz0 hz1 hz2 rfl (by decide) _ _ _ rfl (hr.alloc _) ⟨W.heap.size, 0, none⟩ 1 1 (Ent.cells ⟨x / 2 % 16, x % 2, y, z, t⟩) rfl rfl (by exact new_row _ _ _) (by simp [Value.oneCell', Ent.cells]) (by simp only [maxLen]; omega) (by omega) (by simp; omega) ?_); intro v' w1 hown' hgrow _; obtain ⟨g', cap', rfl⟩ := ownsRow_succ hown'; obtain ⟨hv1, hv2, hr2, hk2, hb2⟩ := hv.appended (by decide) hr hbs (Nat.le_refl _) hown' hgrow; have hc1 := hv1.cell; have hf1 := hv1.frozen)
    have hu1 : Boxed w1 (w.heap.size + 1) 22 u := (hu.alloc _).kept hgrow (Ne.symm (Ne.symm (hu.not_row (by decide) hr)))
    refine ⟨hk2.from _, ⟨hb2, (hu1.other (by omega) _).trans hu.symm⟩, ⟨_, hv2, ?_⟩, ⟨u, hu1.other (by omega) _⟩, hb.trans hb2⟩
    rw [List.length_append, List.map_append, List.flatMap_append]
    simpa [entOf] using hr2
  case done =>
    rintro D W hD ⟨⟨v, hv, hr⟩, ⟨u, hu⟩, hb⟩ hK
    have hc := hv.cell
    gi_wp2
    refine ⟨by simp, .inl ⟨_, _, rfl, run_takeDeferred hK, ?_⟩⟩
    refine ⟨_, results_tmp rfl _ _ _, v, rfl, ?_, hb.trans (belowK_b (w := w) (Nat.le_refl _) W D _ _ (by simp at hD; omega) hK rfl rfl)⟩
    rw [getS_quads, List.length_map]
    exact ownsRow_putObj hr _ hK rfl

theorem get_any (A : Option Addr) (zs : List Int) (ca : Nat) (w : World) (hl : Rd w w.heap.size 1 encB A zs) (h1 : zs.length ≤ 100000) (hcap : zs.length ≤ ca) (hall : ∀ z ∈ zs, 0 ≤ z ∧ z ≤ 255) :
    Calls Try.prog 8 #[.slice A zs.length ca] w fun r w' => ∃ v, r = .returned v ∧ w'.ownsRow w.heap.size 27 5 v (getS zs).length ((getS zs).flatMap Ent.cells) ∧ Below w.heap.size w w' :=
  callsIn_wide.1 (get_in A zs ca w hl h1 hcap hall)
theorem get_len (A : Option Addr) (zs : List Int) (es : List Ent) (n m ca : Nat) (w : World) (hn : zs.length = n) (hes : getS zs = es) (hm : es.length = m) (hl : Rd w w.heap.size 1 encB A zs) (h1 : n ≤ 100000) (hcap : n ≤ ca) (hall : ∀ z ∈ zs, 0 ≤ z ∧ z ≤ 255) :
    Calls Try.prog 8 #[.slice A n ca] w fun r w' => ∃ A' c', r = .returned (.slice A' m c') ∧ m ≤ c' ∧ Rd w' w'.heap.size 5 Ent.cells A' es ∧ Below w.heap.size w w' := by
  subst hn hes hm
  refine (get_any A zs ca w hl h1 hcap hall).mono ?_
  rintro e w' ⟨v, rfl, hown, hb⟩
  obtain ⟨A', c', rfl, hc⟩ := own_slice hown
  exact ⟨A', c', rfl, hc, Rd.of_own Ent.cells_length (by decide) hown, hb⟩
theorem sameEnts_len (A C : Option Addr) (l : List Ent) (n m : Nat) (ca cc : Nat) (w : World) (hn : l.length = n) (hm : l.length = m) (hl : Rd w w.heap.size 5 Ent.cells A l) (hm' : Rd w w.heap.size 5 Ent.cells C l) (h1 : n ≤ 140737488351232) :
    Calls Try.prog 10 #[.slice A n ca, .slice C m cc] w fun r w' => r = .returned (.bool true) ∧ ∃ n, w' = w.drewN n := by
  subst hn hm
  exact sameEnts_any A C l l ca cc w hl hm' h1 h1 rfl
end Go.Proofs.Ytmiannlghigagaa
