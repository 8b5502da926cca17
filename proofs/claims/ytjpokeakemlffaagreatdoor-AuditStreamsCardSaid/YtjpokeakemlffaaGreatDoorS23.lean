/-
  Walks and laws, one behind the other (part 23).
-/
import Derived.Below
import Derived.OneCell
import Derived.OrdersHeld
import Derived.OwnWalk
set_option linter.unusedSimpArgs false
set_option linter.unusedVariables false
/-
  Several pieces of memory that a region makes, in whatever order: one way.
-/
namespace Go.Proofs.YtjpokeakemlffaaGreatDoor
open Go Go.RowKit
def holdB (md : Region.Mode) (ops : Array Oper) (listed : Array Bool) (R R0 : List Nat) : Bool :=
  ((List.range ops.size).all fun i => listed.getD i true || R.contains i ||
     match ops[i]? with
     | none => true
     | some o => (o.after.toList.any fun e => Region.binds md e && !listed.getD e.on false && !R.contains e.on) || R0.all fun r => o.after.toList.any fun e => Region.binds md e && e.on == r) &&
  R.all fun r => !listed.getD r true && match ops[r]? with | none => false | some o => o.after.toList.all fun e => !Region.binds md e || listed.getD e.on false
theorem getD_bool {l : Array Bool} {k : Nat} : l.getD k false = true ↔ k < l.size ∧ l.getD k true = true := by
  rcases Nat.lt_or_ge k l.size with h | h
  · simp [h]
  · simp [Array.getElem?_eq_none h]; omega
section
variable {P : Program} {ops : Array Oper} {Q : Exit → Act → World → Prop} {md : Region.Mode} {S : World → Prop} {listed listed' : Array Bool} {R R' R0 : List Nat}
theorem holdB_ready (h : holdB md ops listed R R0 = true) (hs : listed'.size = listed.size) (hl : ∀ i, listed'.getD i true = false ↔ (listed.getD i true = false ∧ (i ∈ R → i ∈ R'))) (hsub : ∀ r ∈ R', r ∈ R) (hne : ∃ r ∈ R', r ∈ R0) :
    (∀ i, i ∈ Region.ready md ops listed' → i ∈ R') ∧ ∀ r ∈ R', r ∈ Region.ready md ops listed' := by
  unfold holdB at h
  rw [Bool.and_eq_true, List.all_eq_true, List.all_eq_true] at h
  obtain ⟨h1, h2⟩ := h
  have h2' : ∀ r ∈ R, listed.getD r true = false ∧ ∃ o, ops[r]? = some o ∧ ∀ e ∈ o.after, Region.binds md e = true → listed.getD e.on false = true := fun r hr => by
    have := h2 r hr
    cases ho : ops[r]? with
    | none => rw [ho] at this; simp at this
    | some o =>
      rw [ho] at this
      simp only [Bool.and_eq_true, Bool.not_eq_true', List.all_eq_true, Bool.or_eq_true] at this
      refine ⟨this.1, o, rfl, fun e he hb => ?_⟩
      rcases this.2 e (by simpa using he) with h | h
      · rw [hb] at h; cases h
      · exact h
  have key : ∀ k, listed'.getD k false = true → k ∉ R → listed.getD k false = true := fun k hk hn => by
    obtain ⟨k1, k2⟩ := getD_bool.1 hk
    refine getD_bool.2 ⟨by omega, ?_⟩
    cases hx : listed.getD k true with
    | true => rfl
    | false =>
      have := (hl k).2 ⟨hx, fun h => absurd h hn⟩
      rw [k2] at this
      cases this
  refine ⟨fun i hi => ?_, fun r hr => ?_⟩
  · obtain ⟨hi0, o, ho, hall⟩ := mem_ready.1 hi
    obtain ⟨hj, hR⟩ := (hl i).1 hi0
    by_cases hiR : i ∈ R
    · exact hR hiR
    · exfalso
      have hlt : i < ops.size := (Array.getElem?_eq_some_iff.1 ho).1
      have h3 := h1 i (List.mem_range.2 hlt)
      rw [ho] at h3
      simp only [hj, Bool.false_or, Bool.or_eq_true, List.contains_iff_mem, hiR, false_or, List.any_eq_true, Bool.and_eq_true, Bool.not_eq_true', List.all_eq_true, beq_iff_eq] at h3
      rcases h3 with ⟨e, he, ⟨hb, hn⟩, hc⟩ | h3
      · have hc' : e.on ∉ R := fun h => by
          have := List.contains_iff_mem.2 h
          rw [hc] at this
          cases this
        have := key e.on (hall e (by simpa using he) hb) hc'
        rw [hn] at this
        cases this
      · obtain ⟨r, hr, hr0⟩ := hne
        obtain ⟨e, he, hb, rfl⟩ := h3 r hr0
        have h4 := (getD_bool.1 (hall e (by simpa using he) hb)).2
        have h5 := (hl e.on).2 ⟨(h2' e.on (hsub _ hr)).1, fun _ => hr⟩
        rw [h4] at h5
        cases h5
  · obtain ⟨h3, o, ho, hall⟩ := h2' r (hsub r hr)
    refine mem_ready.2 ⟨(hl r).2 ⟨h3, fun _ => hr⟩, o, ho, fun e he hb => ?_⟩
    obtain ⟨k1, k2⟩ := getD_bool.1 (hall e he hb)
    refine getD_bool.2 ⟨by omega, ?_⟩
    cases hx : listed'.getD e.on true with
    | true => rfl
    | false =>
      have := ((hl e.on).1 hx).1
      rw [k2] at this
      cases this
theorem foldl_set_size : ∀ (R : List Nat) (l : Array Bool), (R.foldl (fun l r => l.setIfInBounds r true) l).size = l.size
  | [], _ => rfl
  | r :: R, l => by rw [List.foldl_cons, foldl_set_size R]; simp
theorem foldl_set_get : ∀ (R : List Nat) (l : Array Bool) (i : Nat), (R.foldl (fun l r => l.setIfInBounds r true) l).getD i true = (l.getD i true || R.contains i)
  | [], l, i => by simp
  | r :: R, l, i => by
    rw [List.foldl_cons, foldl_set_get R]
    by_cases e : r = i
    · subst e
      by_cases h : r < l.size
      · simp [h]
      · simp [Array.getElem?_eq_none (Nat.le_of_not_lt h)]
    · have : ((l.setIfInBounds r true).getD i true) = l.getD i true := by simp [Array.getD_eq_getD_getElem?, Array.getElem?_setIfInBounds_ne e]
      rw [this]
      have e' : i ≠ r := fun h => e h.symm
      simp [e']
theorem foldl_put_defers (dst : Nat → Nat) (v : Nat → Value) : ∀ (R : List Nat) (a : Act), (R.foldl (fun a r => a.put (some (dst r)) (v r)) a).defers = a.defers
  | [], _ => rfl
  | r :: R, a => by rw [List.foldl_cons, foldl_put_defers dst v R]; rfl
theorem foldl_put_size (dst : Nat → Nat) (v : Nat → Value) : ∀ (R : List Nat) (a : Act), (R.foldl (fun a r => a.put (some (dst r)) (v r)) a).tmps.size = a.tmps.size
  | [], _ => rfl
  | r :: R, a => by rw [List.foldl_cons, foldl_put_size dst v R]; simp [Act.put]
theorem foldl_put_other (dst : Nat → Nat) (v : Nat → Value) : ∀ (R : List Nat) (a : Act) (s : Nat), s ∉ R.map dst → (R.foldl (fun a r => a.put (some (dst r)) (v r)) a).tmps.getD s undef = a.tmps.getD s undef
  | [], _, _, _ => rfl
  | r :: R, a, s, h => by
    rw [List.foldl_cons, foldl_put_other dst v R _ s (fun hm => h (by simp [hm]))]
    have : dst r ≠ s := fun e => h (by simp [e])
    simp [Act.put, Array.getD_eq_getD_getElem?, Array.getElem?_setIfInBounds_ne this]
theorem foldl_put_at (dst : Nat → Nat) (v : Nat → Value) : ∀ (R : List Nat) (a : Act), (R.map dst).Nodup → (∀ r ∈ R, dst r < a.tmps.size) → ∀ r ∈ R, (R.foldl (fun a r => a.put (some (dst r)) (v r)) a).tmps.getD (dst r) undef = v r
  | [], _, _, _, _, h => by cases h
  | q :: R, a, hn, hs, r, h => by
    rw [List.map_cons, List.nodup_cons] at hn
    rw [List.foldl_cons]
    by_cases hr : r ∈ R
    · exact foldl_put_at dst v R _ hn.2 (fun x hx => by simpa [Act.put] using hs x (by simp [hx])) r hr
    · obtain rfl : r = q := by simpa [hr] using h
      rw [foldl_put_other dst v R _ _ hn.1]
      simp [Act.put, hs r (by simp)]
theorem nodup_of_map {f : Nat → Nat} : ∀ {R : List Nat}, (R.map f).Nodup → R.Nodup
  | [], _ => List.nodup_nil
  | r :: R, h => by
    rw [List.map_cons, List.nodup_cons] at h
    exact List.nodup_cons.2 ⟨fun hm => h.1 (List.mem_map_of_mem hm), nodup_of_map h.2⟩
theorem inj_of_map {f : Nat → Nat} : ∀ {R : List Nat}, (R.map f).Nodup → ∀ {x y : Nat}, x ∈ R → y ∈ R → f x = f y → x = y
  | [], _, _, _, h, _, _ => by cases h
  | r :: R, h, x, y, hx, hy, e => by
    rw [List.map_cons, List.nodup_cons] at h
    rcases List.mem_cons.1 hx with rfl | hx' <;> rcases List.mem_cons.1 hy with rfl | hy'
    · rfl
    · exact absurd (by rw [e]; exact List.mem_map_of_mem hy') h.1
    · exact absurd (by rw [← e]; exact List.mem_map_of_mem hx') h.1
    · exact inj_of_map h.2 hx' hy' e
theorem done_listed {T : List Nat} (hs : listed'.size = listed.size) (hl : ∀ i, listed'.getD i true = false ↔ (listed.getD i true = false ∧ i ∉ T)) : listed' = T.foldl (fun l r => l.setIfInBounds r true) listed := by
  apply Array.ext
  · rw [foldl_set_size, hs]
  · intro i h1 h2
    have h3 := foldl_set_get T listed i
    rw [Array.getD_eq_getD_getElem?, Array.getElem?_eq_getElem h2, Option.getD_some] at h3
    have h4 := hl i
    rw [Array.getD_eq_getD_getElem?, Array.getElem?_eq_getElem h1, Option.getD_some] at h4
    rw [h3]
    by_cases hR : i ∈ T
    · have : listed'[i] = true := by
        cases hx : listed'[i] with
        | true => rfl
        | false => exact absurd hR (h4.1 hx).2
      simp [this, hR]
    · cases hx : listed'[i] with
      | true =>
        cases hy : listed.getD i true with
        | true => rfl
        | false =>
          have := h4.2 ⟨hy, hR⟩
          rw [hx] at this
          cases this
      | false =>
        rw [(h4.1 hx).1]
        simp [hR]
theorem done_act {a a' : Act} (dst : Nat → Nat) (v : Nat → Value) {T : List Nat} (hnd : (T.map dst).Nodup) (hds : ∀ r ∈ T, dst r < a.tmps.size) (hd : a'.defers = a.defers) (hts : a'.tmps.size = a.tmps.size)
    (hto : ∀ s, s ∉ T.map dst → a'.tmps.getD s undef = a.tmps.getD s undef) (hg : ∀ r ∈ T, a'.tmps.getD (dst r) undef = v r) : a' = T.foldl (fun a r => a.put (some (dst r)) (v r)) a := by
  have f1 := foldl_put_defers dst v T a
  have f2 := foldl_put_size dst v T a
  have f3 := foldl_put_other dst v T a
  have f4 := foldl_put_at dst v T a hnd hds
  generalize T.foldl (fun a r => a.put (some (dst r)) (v r)) a = b at f1 f2 f3 f4
  obtain ⟨bt, bd⟩ := b
  obtain ⟨at', ad⟩ := a'
  simp only at f1 f2 f3 f4 hd hts hto hg
  have : at' = bt := by
    apply Array.ext
    · omega
    · intro i h1 h2
      have hq : at'.getD i undef = bt.getD i undef := by
        by_cases hm : i ∈ T.map dst
        · obtain ⟨r, hr, rfl⟩ := List.mem_map.1 hm
          rw [f4 r hr]
          exact hg r hr
        · rw [f3 i hm]; exact hto i hm
      simpa [h1, h2] using hq
  rw [this, hd, f1]
theorem wpAnyH_allocs {a : Act} {w : World} (dst : Nat → Nat) (ob : Nat → Obj) (val : Nat → Nat → Value) (R0 : List Nat) (x : Nat) (fuel : Nat) (hnd : ((R0 ++ [x]).map dst).Nodup) (hds : ∀ r ∈ R0 ++ [x], dst r < a.tmps.size) (hB : holdB md ops listed (R0 ++ [x]) R0 = true)
    (hop : ∀ r ∈ R0 ++ [x], ∀ (K : Act → World → Prop) (a' : Act) (w' : World), (∀ s, s ∉ (R0 ++ [x]).map dst → a'.tmps.getD s undef = a.tmps.getD s undef) → K (a'.put (some (dst r)) (val r w'.heap.size)) (w'.alloc (ob r)) → wpOp P ops Q r K a' w')
    (hS : ∀ w' o, S w' → S (w'.alloc o))
    (hend : ∀ (g : Nat → Nat) (w' : World), (∀ r ∈ R0 ++ [x], w.heap.size ≤ g r ∧ w'.heap[g r]? = some (ob r)) → Below w.heap.size w w' → S w' →
      wpAnyH P md ops Q S fuel ((R0 ++ [x]).foldl (fun l r => l.setIfInBounds r true) listed) ((R0 ++ [x]).foldl (fun a r => a.put (some (dst r)) (val r (g r))) a) w')
    (hend1 : ∀ (g : Nat → Nat) (w' : World), (∀ r ∈ R0, w.heap.size ≤ g r ∧ w'.heap[g r]? = some (ob r)) → Below w.heap.size w w' → S w' →
      wpAnyH P md ops Q S (fuel + 1) (R0.foldl (fun l r => l.setIfInBounds r true) listed) (R0.foldl (fun a r => a.put (some (dst r)) (val r (g r))) a) w') (hw : S w) :
    wpAnyH P md ops Q S (fuel + (R0 ++ [x]).length) listed a w := by
  have hndR : (R0 ++ [x]).Nodup := nodup_of_map hnd
  have hx0 : x ∉ R0 := fun h => by
    have := (List.nodup_append.1 hndR).2.2 x h x (by simp)
    exact this rfl
  obtain ⟨R, hR⟩ : ∃ R, R0 ++ [x] = R := ⟨_, rfl⟩
  rw [hR] at hnd hds hB hop hend hndR ⊢
  have main : ∀ (n : Nat) (R' : List Nat) (listed' : Array Bool) (a' : Act) (w' : World) (g : Nat → Nat), R'.length = n → R'.Nodup → (∀ r ∈ R', r ∈ R) → listed'.size = listed.size →
      (∀ i, listed'.getD i true = false ↔ (listed.getD i true = false ∧ (i ∈ R → i ∈ R'))) → a'.defers = a.defers → a'.tmps.size = a.tmps.size → (∀ s, s ∉ (R.filter (· ∉ R')).map dst → a'.tmps.getD s undef = a.tmps.getD s undef) →
      (∀ r ∈ R, r ∉ R' → w.heap.size ≤ g r ∧ w'.heap[g r]? = some (ob r) ∧ a'.tmps.getD (dst r) undef = val r (g r)) → Below w.heap.size w w' → S w' → wpAnyH P md ops Q S (fuel + n) listed' a' w' := by
    intro n
    induction n with
    | zero =>
      intro R' listed' a' w' g hn _ _ hs hl hd hts hto hg hb hw'
      obtain rfl := List.eq_nil_of_length_eq_zero hn
      have hf : R.filter (fun r => decide (r ∉ ([] : List Nat))) = R := by simp
      rw [hf] at hto
      rw [done_listed hs (T := R) (fun i => by rw [hl i]; simp), done_act dst (fun r => val r (g r)) hnd hds hd hts hto (fun r hr => (hg r hr (by simp)).2.2)]
      exact hend g w' (fun r hr => ⟨(hg r hr (by simp)).1, (hg r hr (by simp)).2.1⟩) hb hw'
    | succ n ih =>
      intro R' listed' a' w' g hn hndR' hsub hs hl hd hts hto hg hb hw'
      by_cases hq : ∃ r ∈ R', r ∈ R0
      · obtain ⟨hr1, hr2⟩ := holdB_ready (listed' := listed') (R' := R') hB hs hl hsub hq
        refine ⟨fun h0 => ?_, fun i hi => ?_⟩
        · obtain ⟨r, hr, _⟩ := hq
          have := hr2 r hr
          rw [h0] at this
          cases this
        · have hi' := hr1 i hi
          have hto2 : ∀ s, s ∉ R.map dst → a'.tmps.getD s undef = a.tmps.getD s undef := fun s hs' => hto s (fun h => hs' (by
            obtain ⟨r, hr, rfl⟩ := List.mem_map.1 h
            exact List.mem_map_of_mem (List.mem_filter.1 hr).1))
          refine hop i (hsub i hi') _ a' w' hto2 ⟨hS _ _ hw', ?_⟩
          refine ih (R'.erase i) _ _ _ (fun r => if r = i then w'.heap.size else g r) (by rw [List.length_erase_of_mem hi', hn]; rfl) (hndR'.erase i) (fun r hr => hsub r (List.mem_of_mem_erase hr)) (by simp [hs]) (fun j => ?_) hd (by simp [Act.put, hts]) (fun s hs' => ?_) (fun r hr hnr => ?_) (hb.alloc hb.size _) (hS _ _ hw')
          · by_cases hji : i = j
            · subst hji
              have hl0 := mem_ready.1 (hr2 i hi')
              rw [show (listed'.setIfInBounds i true).getD i true = true by
                by_cases h : i < listed'.size <;> simp [h]]
              simp only [Bool.true_eq_false, false_iff, not_and]
              intro _ hc
              exact absurd (hc (hsub i hi')) (by rw [hndR'.mem_erase_iff]; simp)
            · have : ((listed'.setIfInBounds i true).getD j true) = listed'.getD j true := by simp [Array.getD_eq_getD_getElem?, Array.getElem?_setIfInBounds_ne hji]
              rw [this, hl j, hndR'.mem_erase_iff]
              have hji' : j ≠ i := fun e => hji e.symm
              simp [hji']
          · have : dst i ≠ s := fun e => hs' (by
              rw [← e]
              exact List.mem_map_of_mem (List.mem_filter.2 ⟨hsub i hi', by simp [hndR'.mem_erase_iff]⟩))
            rw [← hto s (fun h => hs' (by
              obtain ⟨r, hr, rfl⟩ := List.mem_map.1 h
              have h2 := List.mem_filter.1 hr
              exact List.mem_map_of_mem (List.mem_filter.2 ⟨h2.1, by simp only [decide_eq_true_eq] at h2 ⊢; exact fun h3 => h2.2 (List.mem_of_mem_erase h3)⟩)))]
            simp [Act.put, Array.getD_eq_getD_getElem?, Array.getElem?_setIfInBounds_ne this]
          · by_cases hri : r = i
            · subst hri
              refine ⟨by simp; exact hb.size, by rw [if_pos rfl]; exact heap_alloc_new _ _, ?_⟩
              simp [Act.put, hts, hds r hr]
            · have hnr' : r ∉ R' := fun h => hnr ((hndR'.mem_erase_iff).2 ⟨hri, h⟩)
              obtain ⟨g1, g2, g3⟩ := hg r hr hnr'
              simp only [hri, if_false]
              refine ⟨g1, ?_, ?_⟩
              · have hlt : g r < w'.heap.size := lt_of_block g2
                rw [← g2]
                exact Below.heap_alloc _ _ _ hlt
              · have hne' : dst i ≠ dst r := fun e => hri (inj_of_map hnd hr (hsub i hi') e.symm)
                rw [← g3]
                simp [Act.put, Array.getD_eq_getD_getElem?, Array.getElem?_setIfInBounds_ne hne']
      · have hRx : ∀ r ∈ R', r = x := fun r hr => by
          have h1 := hsub r hr
          rw [← hR, List.mem_append] at h1
          rcases h1 with h1 | h1
          · exact absurd ⟨r, hr, h1⟩ hq
          · simpa using h1
        obtain ⟨n', rfl⟩ : ∃ n', n' = n := ⟨_, rfl⟩
        cases R' with
        | nil => simp at hn
        | cons y R'' =>
          obtain rfl := hRx y (by simp)
          have : R'' = [] := by
            cases R'' with
            | nil => rfl
            | cons z Z =>
              have := hRx z (by simp)
              rw [List.nodup_cons] at hndR'
              exact absurd (by rw [this]; simp) hndR'.1
          subst this
          obtain rfl : n' = 0 := by simpa using hn.symm
          have hT : R.filter (fun r => decide (r ∉ [y])) = R0 := by
            rw [← hR, List.filter_append]
            have e1 : R0.filter (fun r => decide (r ∉ [y])) = R0 := List.filter_eq_self.2 (fun r hr => by simp; exact fun e => hx0 (e ▸ hr))
            rw [e1]
            simp
          rw [hT] at hto
          have hsub0 : ∀ r ∈ R0, r ∈ R ∧ r ≠ y := fun r hr => ⟨by rw [← hR]; simp [hr], fun e => hx0 (e ▸ hr)⟩
          have hnd0 : (R0.map dst).Nodup := by
            rw [← hR, List.map_append, List.nodup_append] at hnd
            exact hnd.1
          rw [done_listed hs (T := R0) (fun i => by
            rw [hl i]
            refine and_congr_right fun _ => ⟨fun h hi => ?_, fun h hi => ?_⟩
            · exact (hsub0 i hi).2 (by simpa using h (hsub0 i hi).1)
            · rw [← hR, List.mem_append] at hi
              rcases hi with hi | hi
              · exact absurd hi h
              · exact hi), done_act dst (fun r => val r (g r)) hnd0 (fun r hr => hds r (hsub0 r hr).1) hd hts hto (fun r hr => (hg r (hsub0 r hr).1 (by simp; exact (hsub0 r hr).2)).2.2)]
          exact hend1 g w' (fun r hr => ⟨(hg r (hsub0 r hr).1 (by simp; exact (hsub0 r hr).2)).1, (hg r (hsub0 r hr).1 (by simp; exact (hsub0 r hr).2)).2.1⟩) hb hw'
  exact main R.length R listed a w (fun _ => 0) rfl hndR (fun _ h => h) rfl (fun i => by simp) rfl rfl (fun _ _ => rfl) (fun r hr hn => absurd hr hn) (Below.refl _ _) hw
end
end Go.Proofs.YtjpokeakemlffaaGreatDoor
