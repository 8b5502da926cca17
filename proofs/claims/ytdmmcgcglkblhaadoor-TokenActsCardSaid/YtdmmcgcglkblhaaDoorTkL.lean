/-
  As many entries as tokens.
-/
import Derived.Test.YtdmmcgcglkblhaaDoorTkV
namespace Go.Proofs.YtdmmcgcglkblhaaDoor
open Go.RowKit Go.Maps Go.WideShapes
open Go.WideElems (rd_key rg_of)

/-- The keys of a map from integers of a kind. -/
theorem owns_keys {w : World} {q : IntKind} {k : TypeId} {R : Value → Option (DataW Unit × List MemPlace)} {m n : Nat} {D : DataW Unit} (hk : Tryd.prog.underlying k = some (.int q)) (K : Keyed Tryd.prog k) (h : w.ownsMap Tryd.prog k R m n D) :
    ∃ es : List (Lit × DataW Unit), D = .map es ∧ es.Pairwise (fun p q => p.1 ≠ q.1) ∧ ∀ p ∈ es, ∃ t, p.1 = .int q t := by
  obtain ⟨es, clock, _, F, _, rfl⟩ := h
  refine ⟨_, rfl, ((sorted_perm _).pairwise_iff (fun {_ _} hne => Ne.symm hne)).2 (Maps.fit_apart K F), fun p hp => ?_⟩
  obtain ⟨x, hx, rfl⟩ := List.mem_map.1 (mem_sorted.1 hp)
  obtain ⟨y, hy⟩ := F.reads x hx
  rw [rg_of hy]
  obtain ⟨t, _, e, _⟩ := Maps.keyOf_int_inv hk (rd_key hy)
  exact ⟨t, e⟩
/-- Every list of all the keys, each once, is as long as the map. -/
theorem owns_count {w : World} {q : IntKind} {k : TypeId} {R : Value → Option (DataW Unit × List MemPlace)} {m n : Nat} {D : DataW Unit} (hk : Tryd.prog.underlying k = some (.int q)) (K : Keyed Tryd.prog k) (h : w.ownsMap Tryd.prog k R m n D) {ts : List Int} (hn : ts.Nodup) (hm : ∀ t, t ∈ ts ↔ Maps.has D (.int q t) = true) : ts.length = Maps.size D := by
  obtain ⟨es, rfl, hp, hi⟩ := owns_keys hk K h
  have h1 : (ts.map fun t => Lit.int q t).Nodup := by
    refine List.Pairwise.map _ ?_ hn
    intro a b hab e
    exact hab (by injection e)
  have h2 : (es.map (·.1)).Nodup := List.Pairwise.map _ (fun a b hab => hab) hp
  have h3 : (ts.map fun t => Lit.int q t).Perm (es.map (·.1)) := by
    refine (List.perm_ext_iff_of_nodup h1 h2).2 fun z => ?_
    rw [List.mem_map, List.mem_map]
    constructor
    · rintro ⟨t, ht, rfl⟩
      have := (hm t).1 ht
      rw [has_eq] at this
      obtain ⟨p, hp1, hp2⟩ := List.any_eq_true.1 this
      obtain ⟨t', e⟩ := hi p hp1
      refine ⟨p, hp1, ?_⟩
      rw [e] at hp2 ⊢
      simp [Lit.sameKey] at hp2
      rw [hp2]
    · rintro ⟨p, hp1, rfl⟩
      obtain ⟨t', e⟩ := hi p hp1
      refine ⟨t', (hm t').2 ?_, e.symm⟩
      rw [has_eq]
      exact List.any_eq_true.2 ⟨p, hp1, by rw [e]; simp [Lit.sameKey]⟩
  have := h3.length_eq
  rw [List.length_map, List.length_map] at this
  exact this
theorem Mt.count {w : World} {m nb k : Nat} {M : Int → Option En} (h : Mt w m nb M k) {ts : List Int} (hn : ts.Nodup) (hm : ∀ t, t ∈ ts ↔ (M t).isSome = true) : ts.length = k := by
  obtain ⟨D, hD, h1, _, rfl⟩ := h
  exact owns_count Tryd.underlying30 keyedU hD hn fun t => by rw [hm, h1]
end Go.Proofs.YtdmmcgcglkblhaaDoor
