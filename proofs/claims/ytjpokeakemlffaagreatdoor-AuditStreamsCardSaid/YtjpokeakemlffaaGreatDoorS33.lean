/-
  Walks and laws, one behind the other (part 33).
-/
import Derived.Test.YtjpokeakemlffaaGreatDoorS22
import Derived.Test.YtjpokeakemlffaaGreatDoorS29
import Derived.Test.YtjpokeakemlffaaGreatDoorS32
set_option linter.unusedSimpArgs false
set_option linter.unusedVariables false
/-
  A connection whose one leg dies: what its parts answer then.
-/
namespace Go.Proofs.YtjpokeakemlffaaGreatDoor
open Go.RowKit
section
variable {w0 w : World} {base wb wm nb : Nat} {S : Nat → Value} {now : Int} {L : List Due} {c sd st rv mp st2 lg fl pb q : Nat} {p1 p2 k state err ld : Int} {out fout : Value} {times rcv tries at_ since : Int} {has twice : Bool} {carr farr : Array Value}
end
end Go.Proofs.YtjpokeakemlffaaGreatDoor
/-
  The timer of a connection's leg: it sends again, or it dies.
-/
namespace Go.Proofs.YtjpokeakemlffaaGreatDoor
open Go.RowKit
section
variable {w : World} {c sd rv pb lg wb fl q : Nat} {p1 p2 k : Int} {out fout : Value} {times state rcv tries at_ since : Int} {has twice : Bool}
end
end Go.Proofs.YtjpokeakemlffaaGreatDoor
/-
  A connection whose one leg is dead: it fails; its timers are struck.
-/
namespace Go.Proofs.YtjpokeakemlffaaGreatDoor
open Go.RowKit
section
variable {w0 w : World} {base wb wm nb : Nat} {S : Nat → Value} {now : Int} {c sd st rv mp st2 lg fl pb q : Nat} {p1 p2 k : Int} {out fout : Value} {times rcv tries at_ since : Int} {has twice : Bool}
end
end Go.Proofs.YtjpokeakemlffaaGreatDoor
/-
  A connection that hears nothing: its ticks, as long as it lives.
-/
namespace Go.Proofs.YtjpokeakemlffaaGreatDoor
open Go.RowKit
def dlN : Nat → Int
  | 0 => 4
  | 1 => 12
  | 2 => 28
  | 3 => 44
  | _ => 60
section
variable {w0 w w1 : World} {base wb wm nb nb' : Nat} {S S' : Nat → Value} {now now' : Int} {L L' : List Due} {c sd st rv mp st2 lg fl pb q g2 c2 : Nat} {p1 p2 k s e0 : Int} {ov ov' : Value} {gos gos' : List Nat} {farr farr' : Array Value}
theorem Dl.next (h : Dl w0 w base wb wm nb S now L c sd st rv mp st2 lg fl pb q g2 p1 p2 k s e0 c2 ov gos farr) (F : Fw w w1 wb wm S S' (c :: fl :: ov.ownBlock.toList)) (cs' : Cs w0 w1 base wb wm nb' S' now' L' c sd st rv mp st2 lg fl (conD p1 p2 k sd rv pb lg wb ov') farr') (o' : Outs w1 w0.heap.size p1 p2 k s ov' gos')
    (f' : ∀ kb, (ov'.ownBlock = some kb ∨ kb ∈ gos') → ¬ Owns wb wm S' kb) : Dl w0 w1 base wb wm nb' S' now' L' c sd st rv mp st2 lg fl pb q g2 p1 p2 k s e0 c2 ov' gos' farr' := by
  obtain ⟨cur, hcur⟩ := h.rty
  have nin : ∀ {b : Nat} {arr : Array Value} {ty : TypeId}, Bk w b arr ty → ty ≠ 191 → ty ≠ 283 → 132 ≠ ty → b ∉ c :: fl :: ov.ownBlock.toList := fun hb h1 h2 h3 => by
    simp only [List.mem_cons, not_or, Option.mem_toList]
    exact ⟨hb.ne_ty h.cs.cn h1, hb.ne_ty h.cs.flw h2, fun e => h.outs.ne hb h3 e rfl⟩
  refine ⟨cs', o', f', h.que.fw F (h.free2 _ (by simp)).2 (nin h.que (by decide) (by decide) (by decide)), fun j u hu => (World.cell?_of_block (F.block g2 hcur.lt (h.free2 _ (by simp)).2 (nin hcur (by decide) (by decide) (by decide)))).trans (h.row j u hu), ⟨cur, hcur.fw F (h.free2 _ (by simp)).2 (nin hcur (by decide) (by decide) (by decide))⟩, h.pat.fw F (h.free2 _ (by simp)).2 (nin h.pat (by decide) (by decide) (by decide)), fun kb hk => ⟨(h.free2 kb hk).1, F.free ?_ (h.free2 kb hk).2⟩⟩
  simp only [List.mem_cons, List.not_mem_nil, or_false] at hk
  rcases hk with rfl | rfl | rfl
  · exact h.que.lt
  · exact hcur.lt
  · exact h.pat.lt
theorem Dl.wheel (h : Dl w0 w base wb wm nb S now L c sd st rv mp st2 lg fl pb q g2 p1 p2 k s e0 c2 ov gos farr) (hw : Wl w1 base wb wm nb' S' now' L') (hf : Fm w w1 wb wm S S') : Dl w0 w1 base wb wm nb' S' now' L' c sd st rv mp st2 lg fl pb q g2 p1 p2 k s e0 c2 ov gos farr :=
  h.next (hf.fw.mono (by simp)) (h.cs.wheel hw hf) (h.outs.fw hf.fw fun kb e => ⟨h.free kb e, by simp⟩) fun kb e => hf.fw.free (h.outs.lt' e) (h.free kb e)
theorem Dl.quiet (h : Dl w0 w base wb wm nb S now L c sd st rv mp st2 lg fl pb q g2 p1 p2 k s e0 c2 ov gos farr) (hB : Below w.heap.size w w1) : Dl w0 w1 base wb wm nb S now L c sd st rv mp st2 lg fl pb q g2 p1 p2 k s e0 c2 ov gos farr :=
  h.next ((Fm.quiet hB wb wm S).fw.mono (by simp)) (h.cs.quiet hB) (h.outs.keep fun kb e => hB.block kb (h.outs.lt' e)) h.free
theorem Dl.flow (h : Dl w0 w base wb wm nb S now L c sd st rv mp st2 lg fl pb q g2 p1 p2 k s e0 c2 ov gos farr) (F : Fz w w1 [fl]) (hf : Bk w1 fl farr' 283) : Dl w0 w1 base wb wm nb S now L c sd st rv mp st2 lg fl pb q g2 p1 p2 k s e0 c2 ov gos farr' :=
  h.next ((F.fw wb wm S).mono (fun x _ hx => by simp at hx; subst hx; simp)) (h.cs.own (l := []) (F.mono (fun x _ hx => by simp at hx; subst hx; simp)) (h.cs.cn.fz F (by simp; exact h.cs.cn.ne_ty h.cs.flw (by decide))) hf (by simp)) (h.outs.keep fun kb e => F.block kb (h.outs.lt' e) (by simp; exact h.outs.ne' h.cs.flw (by decide) (by decide) e)) h.free
structure Live (w0 w : World) (base wb wm c sd st rv mp st2 lg fl pb q g2 : Nat) (p1 p2 k s e0 : Int) (c2 : Nat) (at0 : Int) (j : Nat) : Prop where
  ex : ∃ (n nb : Nat) (S : Nat → Value) (ov : Value) (gos : List Nat) (since : Int) (twice : Bool), n ≤ 4 ∧ nb ≤ 1 + j ∧ gos.length = n ∧ (j : Int) < dlN n ∧
    Dl w0 w base wb wm nb S (at0 + j) [(0, at0 + dlN n)] c sd st rv mp st2 lg fl pb q g2 p1 p2 k s e0 c2 ov gos (flC q (n : Int) 1 0 (n : Int) (at0 + dlN n) true since twice (.slice none 0 0))
end
end Go.Proofs.YtjpokeakemlffaaGreatDoor
/-
  A connection that hears nothing: its last tick; what it says then.
-/
namespace Go.Proofs.YtjpokeakemlffaaGreatDoor
open Go.RowKit
section
variable {w0 w w1 : World} {base wb wm : Nat} {c sd st rv mp st2 lg fl pb q g2 c2 : Nat} {p1 p2 k s e0 : Int}
structure Gone (w0 w : World) (base wb wm c sd st rv mp st2 lg fl pb q : Nat) (p1 p2 k s : Int) (now : Int) : Prop where
  ex : ∃ (nb : Nat) (S : Nat → Value) (ov : Value) (gos : List Nat) (times since : Int) (twice : Bool), gos.length = 4 ∧
    Cs w0 w base wb wm nb S now [] c sd st rv mp st2 lg fl (conE p1 p2 k 8 13 13 sd rv pb lg wb ov) (flC q times 11 0 5 0 false since twice (.slice none 0 0)) ∧ Outs w w0.heap.size p1 p2 k s ov gos
end
end Go.Proofs.YtjpokeakemlffaaGreatDoor
/-
  The walk of ConnSilent.
-/
namespace Go.Proofs.YtjpokeakemlffaaGreatDoor
open Go.RowKit
section
variable {w0 w : World} {base wb wm nb : Nat} {S : Nat → Value} {now : Int} {c sd st rv mp st2 lg fl pb q : Nat} {p1 p2 k state err ld : Int} {out fout : Value} {times rcv tries at_ since : Int} {has twice : Bool} {carr farr : Array Value}
theorem segS_length (p1 p2 s : Int) (go : Nat) : (segS p1 p2 s go).length = 13 := rfl
end
end Go.Proofs.YtjpokeakemlffaaGreatDoor
/-
  A host dials.
-/
namespace Go.Proofs.YtjpokeakemlffaaGreatDoor
open Go.RowKit
def cutW (w : World) (n : Nat) : World := { w with heap := w.heap.extract 0 n }
theorem cutW_size {w : World} {n : Nat} (h : n ≤ w.heap.size) : (cutW w n).heap.size = n := by simp [cutW]; omega
theorem cutW_below {w : World} {n : Nat} (h : n ≤ w.heap.size) : Below n (cutW w n) w :=
  ⟨rfl, rfl, rfl, by rw [cutW_size h]; exact h, fun k hk => by simp [cutW, Array.getElem?_extract, hk]; omega⟩
section
variable {w0 w w1 : World} {base wb wm nb : Nat} {S : Nat → Value} {now : Int} {L : List Due} {c sd st rv mp st2 lg fl pb q g2 c2 : Nat} {p1 p2 k s e0 : Int} {ov : Value} {gos : List Nat} {farr : Array Value}
theorem Dl.host {cs : List Nat} (h : Dl w0 w base wb wm nb S now L c sd st rv mp st2 lg fl pb q g2 p1 p2 k s e0 c2 ov gos farr) (F : Fz w w1 cs) (hc : Bk w1 c (conD p1 p2 k sd rv pb lg wb (.slice none 0 0)) 191) (hcs : ∀ x ∈ cs, x < w0.heap.size ∨ x = c) :
    Dl (cutW w1 w0.heap.size) w1 base wb wm nb S now L c sd st rv mp st2 lg fl pb q g2 p1 p2 k s e0 c2 (.slice none 0 0) [] farr := by
  have hsz : w0.heap.size ≤ w1.heap.size := Nat.le_trans h.cs.below.size F.size
  have off : ∀ x, w0.heap.size ≤ x → x ≠ c → x ∉ cs := fun x hx hn hm => by
    rcases hcs x hm with h1 | h1
    · omega
    · exact hn h1
  have ty : ∀ {x : Nat} {arr : Array Value} {t : TypeId}, Bk w x arr t → 191 ≠ t → x ≠ c := fun hb ht e => hb.ne_ty h.cs.cn (fun e => ht e.symm) e
  refine ⟨⟨h.cs.wl.same F.size fun x ho => F.block x (h.cs.wl.lt ho) (off x (Nat.le_trans h.cs.hb (h.cs.wl.low ho)) fun e => h.cs.ow c (by simp) (e ▸ ho)), hc, h.cs.snd.fz F (off _ (h.cs.lo _ (by simp)) (ty h.cs.snd (by decide))), h.cs.rcv.fz F (off _ (h.cs.lo _ (by simp)) (ty h.cs.rcv (by decide))), h.cs.leg.fz F (off _ (h.cs.lo _ (by simp)) (ty h.cs.leg (by decide))), h.cs.flw.fz F (off _ (h.cs.lo _ (by simp)) (ty h.cs.flw (by decide))), h.cs.ow, h.cs.nd, ?_, ?_, Nat.le_trans h.cs.hs F.size, ?_⟩, ?_, ?_, h.que.fz F (off _ (h.free2 q (by simp)).1 (ty h.que (by decide))), fun j u hu => ?_, ?_, h.pat.fz F (off _ (h.free2 pb (by simp)).1 (ty h.pat (by decide))), ?_⟩
  · rw [cutW_size hsz]; exact cutW_below hsz
  · rw [cutW_size hsz]; exact h.cs.hb
  · rw [cutW_size hsz]; exact h.cs.lo
  · rw [cutW_size hsz]; exact Outs.nil _ _ _ _ _ _
  · rintro kb (e | e) <;> cases e
  · obtain ⟨cur, hk⟩ := h.rty
    exact (World.cell?_of_block (F.block g2 hk.lt (off _ (h.free2 g2 (by simp)).1 (ty hk (by decide))))).trans (h.row j u hu)
  · obtain ⟨cur, hk⟩ := h.rty
    exact ⟨cur, hk.fz F (off _ (h.free2 g2 (by simp)).1 (ty hk (by decide)))⟩
  · rw [cutW_size hsz]; exact h.free2
end
structure Hc (lo : Nat) (w : World) (hb tb m nbt : Nat) (seed : Int) (ports lv : Value) (made tick : Int) (outv : Value) (M : Int → Option En) (k : Nat) (l : List (Nat × Nat)) (R : List SegR) : Prop where
  hst : Hst lo w hb tb m nbt seed ports lv made tick outv M k
  sk : Sk w lo lv l
  con : ∃ ca : Nat → Array Value, ∀ i s c, l[i]? = some (s, c) → Bk w c (ca i) 191 ∧ (ca i)[7]? = some (.int .i64 0) ∧ (ca i)[29]? = some (.slice none 0 0) ∧ lo ≤ c
  nd : (l.map Prod.snd).Nodup
  row : w.ownsRow lo 132 13 outv R.length (R.flatMap Subtype.val)
  lo : lo ≤ hb ∧ lo ≤ w.heap.size
theorem range_none {rs : Nat → List SegR} : ∀ n, (∀ i, i < n → rs i = []) → (List.range n).flatMap rs = []
  | 0, _ => rfl
  | n + 1, h => by rw [List.range_succ, List.flatMap_append, range_none n (fun i hi => h i (by omega))]; simp [h n (by omega)]
def synR (p1 p2 s : Int) (go : Nat) : SegR := ⟨segS p1 p2 s go, rfl, by simp [segS, Value.oneCell']⟩
def Kept (w w' : World) : Prop := ∀ b arr ty, Bk w b arr ty → 92 ≠ ty → 138 ≠ ty → 191 ≠ ty → 132 ≠ ty → Bk w' b arr ty
structure Dialed (lo : Nat) (w w' : World) (hb tb m nbt : Nat) (seed : Int) (ports : Value) (made tick : Int) (M : Int → Option En) (k : Nat) (l : List (Nat × Nat)) (R : List SegR) (x : Int) (cs : List Nat) : Prop where
  ex : ∃ (lv outv : Value) (sk c go : Nat) (s : Int), Hc lo w' hb tb m (nbt + 1) seed ports lv (made + 1) tick outv (setT M (tokN x) (some ⟨made + 1, true, 0⟩)) (k + 1) (l ++ [(sk, c)]) (R ++ [synR (1024 + (made + 1)) 80 s go]) ∧ Bk w' go (capO x) 173 ∧
    ∃ (w0 : World) (base wb wm : Nat) (S : Nat → Value) (sd st rv mp st2 lg fl pb q g2 : Nat) (e0 : Int) (c2 : Nat), w.heap.size ≤ w0.heap.size ∧ Dl w0 w' base wb wm 1 S tick [(0, tick + 4)] c sd st rv mp st2 lg fl pb q g2 (1024 + (made + 1)) 80 x s e0 c2 (.slice none 0 0) [] (flC q 0 1 0 0 (tick + 4) true tick false (.slice none 0 0))
  below : Below lo w w'
  kept : Kept w w'
  fz : Fz w w' cs
  rng : 0 ≤ x ∧ x < 18446744073709551616
section
variable {lo : Nat} {w : World} {hb tb m nbt : Nat} {seed : Int} {ports lv : Value} {made tick : Int} {outv : Value} {M : Int → Option En} {k : Nat} {l : List (Nat × Nat)} {R : List SegR}
theorem Hc.out {x : Nat} {arr : Array Value} {ty : TypeId} (h : Hc lo w hb tb m nbt seed ports lv made tick outv M k l R) (hb' : Bk w x arr ty) (ht : 92 ≠ ty) : x ∉ [hb, m] := by
  obtain ⟨_, _, _, hB, _⟩ := h.hst.ex
  simp only [List.mem_cons, List.not_mem_nil, or_false, not_or]
  exact ⟨fun e => hB.ne_ty hb' ht e.symm, h.hst.ne.2.2 _ _ _ hb'⟩
theorem Hc.step {w' : World} {nbt' k' : Nat} {M' : Int → Option En} {made' : Int} (h : Hc lo w hb tb m nbt seed ports lv made tick outv M k l R) (F : Fz w w' [hb, m]) (h' : Hst lo w' hb tb m nbt' seed ports lv made' tick outv M' k') : Hc lo w' hb tb m nbt' seed ports lv made' tick outv M' k' l R := by
  obtain ⟨ca, hca⟩ := h.con
  exact ⟨h', h.sk.fz F (fun b cur hb' => h.out hb' (by decide)) (fun b cur hb' => h.out hb' (by decide)), ⟨ca, fun i s c hi => let ⟨a, b, d, e⟩ := hca i s c hi; ⟨a.fz F (h.out a (by decide)), b, d, e⟩⟩, h.nd, own_blockW h.row (fun kb e => let ⟨_, _, h2⟩ := own_ty h.row e; F.block kb h2.lt (h.out h2 (by decide))), h.lo.1, Nat.le_trans h.lo.2 F.size⟩
theorem hcn_five {w0 w4 w5 : World} {base wb wm nb : Nat} {S : Nat → Value} {now : Int} {L : List Due} {c sd st rv mp st2 lg fl pb q g2 c2 go sk : Nat} {p1 p2 x s e0 : Int} {ov : Value} {farr : Array Value} (hc4 : Hc lo w4 hb tb m nbt seed ports lv made tick outv M k l R)
    (dl : Dl w0 w4 base wb wm nb S now L c sd st rv mp st2 lg fl pb q g2 p1 p2 x s e0 c2 ov [go] farr) (hlo : lo ≤ w0.heap.size) (hov : ∀ kb, outv.ownBlock = some kb → kb < w0.heap.size) (F : Fz w4 w5 (hb :: lv.ownBlock.toList)) (ca : Nat → Array Value)
    (hca : ∀ i s c, l[i]? = some (s, c) → Bk w4 c (ca i) 191 ∧ (ca i)[7]? = some (.int .i64 0) ∧ (ca i)[29]? = some (.slice none 0 0) ∧ lo ≤ c) : ∀ i s' c', (l ++ [(sk, c)])[i]? = some (s', c') →
      Hcn w5 lo outv c' (if i < l.length then ca i else conD p1 p2 x sd rv pb lg wb ov) (if i < l.length then .slice none 0 0 else ov) (if i < l.length then [] else [synR p1 p2 s go]) 0 := by
  intro i s' c' hi
  obtain ⟨_, _, _, hB, _⟩ := hc4.hst.ex
  have NIN : ∀ {b : Nat} {arr : Array Value} {ty : TypeId}, Bk w4 b arr ty → 92 ≠ ty → 138 ≠ ty → b ∉ hb :: lv.ownBlock.toList := fun hb' h1 h2 hm => by
    rcases List.mem_cons.1 hm with rfl | hm
    · exact hB.ne_ty hb' h1 rfl
    · exact NIV hc4.sk.row hb' h2 hm
  by_cases hlt : i < l.length
  · rw [if_pos hlt, if_pos hlt, if_pos hlt]
    rw [List.getElem?_append_left hlt] at hi
    obtain ⟨a, b, d, _⟩ := hca i s' c' hi
    exact ⟨a.fz F (NIN a (by decide) (by decide)), b, by decide, d, World.ownsRow_nil _ _ _ _, fun kb e => by cases e⟩
  · rw [if_neg hlt, if_neg hlt, if_neg hlt]
    have hil : i < (l ++ [(sk, c)]).length := (List.getElem?_eq_some_iff.1 hi).1
    obtain rfl : i = l.length := by simp at hil; omega
    rw [List.getElem?_append_right (Nat.le_refl _), Nat.sub_self] at hi
    cases hi
    refine ⟨dl.cs.cn.fz F (NIN dl.cs.cn (by decide) (by decide)), rfl, by decide, rfl, own_low (own_blockW dl.outs.row (fun kb e => let ⟨_, _, hk⟩ := own_ty dl.outs.row e; F.block kb hk.lt (NIN hk (by decide) (by decide)))) hlo, fun kb e e' => ?_⟩
    have := (dl.outs.lt e).1
    have := hov kb e'
    omega
theorem hc_of_stl {w5 w6 : World} {ca : Nat → Array Value} {ovs : Nat → Value} {rs : Nat → List SegR} {sts : Nat → Int} (h : Stl lo w5 w6 hb tb m nbt seed ports lv made tick outv M k l ca ovs rs sts R l.length) (hn : (l.map Prod.snd).Nodup)
    (hq : ∀ i s c, l[i]? = some (s, c) → (ca i)[7]? = some (.int .i64 0) ∧ (∃ v, (ca i)[29]? = some v) ∧ lo ≤ c) (hlo : lo ≤ hb ∧ lo ≤ w5.heap.size) : ∃ outv', Hc lo w6 hb tb m nbt seed ports lv made tick outv' M k l (R ++ (List.range l.length).flatMap rs) := by
  obtain ⟨outv', hst, _, hcd, hrow, _⟩ := h.ex
  refine ⟨outv', hst, h.sk, ⟨fun i => (ca i).setIfInBounds 29 (.slice none 0 0), fun i s c hi => ?_⟩, hn, hrow, hlo.1, Nat.le_trans hlo.2 h.fz.size⟩
  obtain ⟨h7, ⟨v, hv⟩, hl⟩ := hq i s c hi
  have hil : i < l.length := (List.getElem?_eq_some_iff.1 hi).1
  refine ⟨hcd i s c hi hil, ?_, ?_, hl⟩
  · rw [Array.getElem?_setIfInBounds_ne (by decide)]; exact h7
  · have h29 := (Array.getElem?_eq_some_iff.1 hv).1
    simp [h29]
set_option maxRecDepth 100000 in
set_option maxHeartbeats 6400000 in
theorem hconnect_any (h : Hc lo w hb tb m nbt seed ports lv made tick outv M k l R) (hl : l.length ≤ 5) (hm0 : 0 ≤ made) (hm1 : made ≤ 1000) (ht0 : 0 ≤ tick) (ht1 : tick ≤ 1000000) (hnb : nbt < 100000) (hRl : R.length ≤ 1000) :
    Calls Tryz.prog 57 #[.pointer (some ⟨hb, 0, none⟩), .int .i64 0, .int .i64 1, .int .i64 80] w fun e w' =>
      (∃ er, ((er = 15 ∧ k = 4) ∨ (er = 6 ∧ (k ≠ 4 ∧ ∃ t, (M t).isSome = true))) ∧ e = .returned (.tuple #[.int .i64 0, .int .i64 er]) ∧ Hc lo w' hb tb m nbt seed ports lv made tick outv M k l R ∧ Below lo w w' ∧ Kept w w') ∨
      (∃ x, k ≠ 4 ∧ M (tokN x) = none ∧ e = .returned (.tuple #[.int .i64 (made + 1), .int .i64 0]) ∧ Dialed lo w w' hb tb m nbt seed ports made tick M k l R x (hb :: m :: (lv.ownBlock.toList ++ (l.map Prod.snd ++ outv.ownBlock.toList)))) := by
  obtain ⟨drawn, pv, ps, hB, hP⟩ := h.hst.ex
  obtain ⟨A, cc, hlv, hcc⟩ := own_slice h.sk.row
  have c5 : w.cell? ⟨hb, 5, none⟩ = some (.int .i64 made) := hB.c 5
  have c4 : w.cell? ⟨hb, 4, none⟩ = some (.slice A l.length cc) := hlv ▸ hB.c 4
  have q1 : IntKind.i64.wrap (made + 1) = made + 1 := IntWalk.i64_in _ (by omega)
  have q2 : IntKind.i64.wrap (made + 1 + 1024) = made + 1 + 1024 := IntWalk.i64_in _ (by omega)
  have q3 : IntKind.i64.wrap (1024 + (made + 1)) = 1024 + (made + 1) := IntWalk.i64_in _ (by omega)
  have d1 : decide (65535 < made + 1 + 1024) = false := by simp; omega
  have d2 : decide ((6 : Int) ≤ (l.length : Int)) = false := by simp; omega
  have RY : Keep (∀ W, Calls Tryz.prog 90 #[.agg (bareS 0 1 0 80 0 0 false false false false 0)] W fun e w' => e = .returned (.bool true) ∧ Below W.heap.size W w') := ⟨fun W => right_yes 0 1 0 80 0 0 false false false false 0 W (by omega) (by omega) (by omega) (by omega) (by omega) (by omega) (by omega) (by omega) (by omega) (by omega)⟩
  have HH := Keep.mk h
  have HL := Keep.mk hl
  have HM : Keep (0 ≤ made ∧ made ≤ 1000 ∧ 0 ≤ tick ∧ tick ≤ 1000000 ∧ nbt < 100000 ∧ R.length ≤ 1000) := ⟨hm0, hm1, ht0, ht1, hnb, hRl⟩
  have HB0 := Keep.mk hB
  have HLV := Keep.mk hlv
  clear h hl hm0 hm1 ht0 ht1 hnb hRl hB hP hcc hlv
  go_enter Tryz.func57, Tryz.ntmps57
  go_wp2_with (first
    | (go_at_call 90
       go_loud (refine (RY.out _).mono ?_; rintro e w1 ⟨rfl, b1⟩)
       have F1 := Fz.below b1 (Nat.le_refl _)
       have B1 := Keep.mk b1
       have HB1 := HB0.out.fz F1 (by simp)
       have e5 : w1.cell? ⟨hb, 5, none⟩ = some (.int .i64 made) := HB1.c 5
       have e4 : w1.cell? ⟨hb, 4, none⟩ = some (.slice A l.length cc) := HLV.out ▸ HB1.c 4
       have KF1 := Keep.mk F1
       have TA := Keep.mk (htake_any (made + 1) (HH.out.hst.fz F1 (by simp) (by simp) (by simp) (by simp)) HM.out.2.2.2.2.1)
       clear b1 F1 HB1)
    | (go_at_call 91
       go_loud (refine TA.out.mono ?_; rintro e w2 ⟨f2, h2⟩)
       have KF2 := Keep.mk f2
       have H2 := Keep.mk h2
       clear f2 h2 TA
       have F02 : Keep (Fz w w2 [hb, m]) := ⟨(KF1.out.trans KF2.out).mono (by simp)⟩
       obtain ⟨drawn2, pv2, ps2, hB2, hP2⟩ : ∃ dr pv' ps', Bk w2 hb (hostC seed dr pv' ports lv made tb tick outv) 92 ∧ Prm w2 pv' ps' := by
         rcases H2.out with ⟨_, _, _, hs2⟩ | ⟨_, _, _, _, _, _, hs2⟩
         · exact hs2.ex
         · exact hs2.ex
       have g5 : w2.cell? ⟨hb, 5, none⟩ = some (.int .i64 made) := hB2.c 5
       have f5 := hB2.free 5
       have HB2 := Keep.mk hB2
       have HP2 := Keep.mk hP2
       clear hB2 hP2
       rcases H2.out with ⟨er, ⟨rfl, hk4⟩ | ⟨rfl, hk4⟩, rfl, hs2⟩ | ⟨x, x0, x1, rfl, hk4, hMx, hs2⟩)
    | fail)
  · refine bodyPost_ret (results_tmp2 rfl _ _ _) rfl (.inl ⟨15, .inl ⟨rfl, hk4⟩, rfl, HH.out.step F02.out hs2, F02.out.toBelow HH.out.lo.2 (by simp; exact ⟨HH.out.lo.1, HH.out.hst.tab.lowm⟩), fun b arr ty hb' h1 _ _ _ => hb'.fz F02.out (HH.out.out hb' h1)⟩)
  · refine bodyPost_ret (results_tmp2 rfl _ _ _) rfl (.inl ⟨6, .inr ⟨rfl, hk4⟩, rfl, HH.out.step F02.out hs2, F02.out.toBelow HH.out.lo.2 (by simp; exact ⟨HH.out.lo.1, HH.out.hst.tab.lowm⟩), fun b arr ty hb' h1 _ _ _ => hb'.fz F02.out (HH.out.out hb' h1)⟩)
  · have HC2 := Keep.mk (HH.out.step F02.out hs2)
    have HK4 := Keep.mk (And.intro hk4 hMx)
    have HX : Keep (0 ≤ x ∧ x < 18446744073709551616) := ⟨x0, x1⟩
    obtain ⟨w3, hw3⟩ : ∃ w3, w2.setCell ⟨hb, 5, none⟩ (.int .i64 (made + 1)) = w3 := ⟨_, rfl⟩
    have X3 : Fz w2 w3 [hb] := hw3 ▸ Fz.set w2 hb 5 _
    have B3 : Bk w3 hb (hostC seed drawn2 pv2 ports lv (made + 1) tb tick outv) 92 := hw3 ▸ HB2.out.set 5 _
    have HB3 := Keep.mk (B3.fz (Fz.drew w3 1) (by simp))
    have KX3 := Keep.mk X3
    have DI := Keep.mk (dial_any (1024 + (made + 1)) 80 x tick (w3.drewN 1) (by have := HM.out; omega) (by have := HM.out; omega) (by omega) (by omega) HM.out.2.2.1 HM.out.2.2.2.1)
    rw [hw3]
    clear hs2 hk4 hMx H2 x0 x1 X3 B3 hw3
    go_region_held3 (fun X => X.cell? ⟨hb, 5, none⟩ = some (.int .i64 (made + 1)) ∧ X.cell? ⟨hb, 7, none⟩ = some (.int .i64 tick))
      (first | exact ⟨HB3.out.c 5, HB3.out.c 7⟩ | exact ⟨HB4.out.c 5, HB4.out.c 7⟩)
      (first
        | (go_at_call 92
           go_loud (refine DI.out.mono ?_; rintro e w4 ⟨base, wb, wm, S, c, sd, st, rv, mp, st2, lg, fl, pb, q, g2, s, e0, c2, ov, go, rfl, dl⟩)
           have F4 := Fz.below dl.cs.below (Nat.le_refl _)
           have HB4 := Keep.mk (HB3.out.fz F4 (by simp))
           have KF4 := Keep.mk F4
           have DL4 := Keep.mk dl
           clear F4 dl)
        | fail)
    have F24 : Keep (Fz w2 w4 [hb]) := ⟨((KX3.out.trans (Fz.drew w3 1)).trans KF4.out).mono (by simp)⟩
    have HC4 : Keep (Hc lo w4 hb tb m (nbt + 1) seed ports lv (made + 1) tick outv (setT M (tokN x) (some ⟨made + 1, true, 0⟩)) (k + 1) l R) := ⟨HC2.out.step (F24.out.mono (by simp; exact fun _ _ e => .inl e)) ⟨⟨_, _, _, HB4.out, HP2.out.fz F24.out (fun b cur hb' => by simp; exact hb'.ne_ty HB2.out (by decide))⟩, HC2.out.hst.tab.fz F24.out (by simp; exact fun e => HC2.out.hst.ne.1 e.symm) (by simp; exact fun e => HC2.out.hst.ne.2.1 e.symm)⟩⟩
    have SZ : Keep (w2.heap.size ≤ (w3.drewN 1).heap.size ∧ lo ≤ w2.heap.size ∧ w.heap.size ≤ w2.heap.size) := ⟨KX3.out.size, HC2.out.lo.2, F02.out.size⟩
    have PU := Keep.mk (hput_any c HC4.out.hst HC4.out.sk HC4.out.lo.2 (by have := HL.out; omega))
    obtain ⟨ca, hca⟩ := HC4.out.con
    obtain ⟨ca2, hca2⟩ := HC2.out.con
    have HCA := Lib.hid hca
    have HCA2 := Lib.hid hca2
    have HOV : Keep (∀ kb, outv.ownBlock = some kb → kb < (w3.drewN 1).heap.size) := ⟨fun kb e => let ⟨_, _, hk⟩ := own_ty HC2.out.row e; Nat.lt_of_lt_of_le hk.lt SZ.out.1⟩
    have HLVB : Keep (∀ kb, lv.ownBlock = some kb → lo ≤ kb ∧ kb < (w3.drewN 1).heap.size) := ⟨fun kb e => let ⟨h0, _, hk⟩ := own_ty HC2.out.sk.row e; ⟨h0, Nat.lt_of_lt_of_le hk.lt SZ.out.1⟩⟩
    have HLC : Keep (∀ y ∈ l.map Prod.snd, lo ≤ y ∧ y < (w3.drewN 1).heap.size) := ⟨fun y hy => by
      obtain ⟨⟨s', c'⟩, hm', rfl⟩ := List.mem_map.1 hy
      obtain ⟨i, hi, hi'⟩ := List.getElem_of_mem hm'
      obtain ⟨hb', _, _, hl'⟩ := HCA2.out i s' c' (by rw [List.getElem?_eq_getElem hi, hi'])
      exact ⟨hl', Nat.lt_of_lt_of_le hb'.lt SZ.out.1⟩⟩
    have HND : Keep (((l ++ [(0, c)]).map Prod.snd).Nodup) := ⟨by
      rw [List.map_append, List.nodup_append]
      refine ⟨HC2.out.nd, by simp, fun a ha b hb' e => ?_⟩
      have h1 := (HLC.out a ha).2
      have h2 := DL4.out.cs.lo c (by simp)
      simp only [List.map_cons, List.map_nil, List.mem_cons, List.not_mem_nil, or_false] at hb'
      omega⟩
    clear hca hca2
    go_wp2_with (first
      | (go_at_call 93
         go_loud (refine PU.out.mono ?_; rintro e w5 ⟨sk, lv', rfl, hsk, hst5, sk5, f5⟩)
         have hcn5 := hcn_five (sk := sk) HC4.out DL4.out (Nat.le_trans SZ.out.2.1 SZ.out.1) HOV.out f5 ca HCA.out
         have row5 := own_blockW HC4.out.row (w' := w5) (fun kb e => let ⟨_, _, hk⟩ := own_ty HC4.out.row e; f5.block kb hk.lt (fun hm => by
           rcases List.mem_cons.1 hm with rfl | hm
           · exact hk.ne_ty HB4.out (by decide) rfl
           · exact NIV HC4.out.sk.row hk (by decide) hm))
         have ST := Keep.mk (hsettle_any (l := l ++ [(sk, c)]) _ _ _ (fun _ => 0) R hst5 sk5 (by have := HL.out; simp; omega) hcn5 (by simpa using HND.out) row5 (by
           rw [show (l ++ [(sk, c)]).length = l.length + 1 by simp, List.range_succ, List.flatMap_append, range_none l.length (fun i hi => if_pos hi)]
           have := HM.out.2.2.2.2.2
           simp
           omega) (Nat.le_trans HC4.out.lo.2 f5.size))
         have KF5 := Keep.mk f5
         have KSK5 := Keep.mk sk5
         clear hst5 sk5 f5 hcn5 row5 hsk)
      | (go_at_call 89
         go_loud (refine ST.out.mono ?_; rintro e w6 ⟨rfl, st6⟩)
         obtain ⟨outv6, hst6, _, hcd6, hrow6, _⟩ := st6.ex
         obtain ⟨drawn6, pv6, ps6, hB6, hP6⟩ := hst6.ex
         have g6 : w6.cell? ⟨hb, 5, none⟩ = some (.int .i64 (made + 1)) := hB6.c 5
         have ST6 := Keep.mk st6
         have CD6 := Lib.hid hcd6
         clear hst6 hcd6 hrow6 hB6 hP6 st6 ST)
      | fail)
    have hl1 : (l ++ [(sk, c)]).length = l.length + 1 := by simp
    have hn1 : ((l ++ [(sk, c)]).map Prod.snd).Nodup := by simpa using HND.out
    have hq1 : ∀ i s' c', (l ++ [(sk, c)])[i]? = some (s', c') → ((fun i => if i < l.length then ca i else conD (1024 + (made + 1)) 80 x sd rv pb lg wb ov) i)[7]? = some (.int .i64 0) ∧ (∃ v, ((fun i => if i < l.length then ca i else conD (1024 + (made + 1)) 80 x sd rv pb lg wb ov) i)[29]? = some v) ∧ lo ≤ c' := fun i s' c' hi => by
      by_cases hlt : i < l.length
      · rw [List.getElem?_append_left hlt] at hi
        obtain ⟨_, b, d, e⟩ := HCA.out i s' c' hi
        simp only [if_pos hlt]
        exact ⟨b, ⟨_, d⟩, e⟩
      · have hil : i < (l ++ [(sk, c)]).length := (List.getElem?_eq_some_iff.1 hi).1
        obtain rfl : i = l.length := by simp at hil; omega
        rw [List.getElem?_append_right (Nat.le_refl _), Nat.sub_self] at hi
        cases hi
        simp only [if_neg hlt]
        exact ⟨rfl, ⟨_, rfl⟩, Nat.le_trans (Nat.le_trans SZ.out.2.1 SZ.out.1) (DL4.out.cs.lo c (by simp))⟩
    obtain ⟨outv9, hc9⟩ := hc_of_stl ST6.out hn1 hq1 ⟨HC2.out.lo.1, Nat.le_trans HC4.out.lo.2 KF5.out.size⟩
    rw [hl1, List.range_succ, List.flatMap_append, range_none l.length (fun i hi => if_pos hi)] at hc9
    simp only [List.flatMap_cons, List.flatMap_nil, Nat.lt_irrefl, if_false, List.nil_append, List.append_nil] at hc9
    have hc6 : Bk w6 c (conD (1024 + (made + 1)) 80 x sd rv pb lg wb (.slice none 0 0)) 191 := by
      have := CD6.out l.length sk c (by rw [List.getElem?_append_right (Nat.le_refl _), Nat.sub_self]; rfl) (by simp)
      rw [if_neg (Nat.lt_irrefl _)] at this
      exact this
    have cs46 : ∀ y ∈ (hb :: lv.ownBlock.toList) ++ (hb :: ((l ++ [(sk, c)]).map Prod.snd ++ outv.ownBlock.toList)), lo ≤ y ∧ (y < (w3.drewN 1).heap.size ∨ y = c) := fun y hy => by
      have hbl : lo ≤ hb ∧ (hb < (w3.drewN 1).heap.size ∨ hb = c) := ⟨HC2.out.lo.1, .inl HB3.out.lt⟩
      rcases List.mem_append.1 hy with hy | hy
      · rcases List.mem_cons.1 hy with rfl | hy
        · exact hbl
        · have := HLVB.out y (by simpa using hy)
          exact ⟨this.1, .inl this.2⟩
      · rcases List.mem_cons.1 hy with rfl | hy
        · exact hbl
        rcases List.mem_append.1 hy with hy | hy
        · rw [List.map_append, List.mem_append] at hy
          rcases hy with hy | hy
          · have := HLC.out y hy
            exact ⟨this.1, .inl this.2⟩
          · obtain rfl : y = c := by simpa using hy
            exact ⟨Nat.le_trans (Nat.le_trans SZ.out.2.1 SZ.out.1) (DL4.out.cs.lo _ (by simp)), .inr rfl⟩
        · have h1 := HOV.out y (by simpa using hy)
          obtain ⟨h2, _⟩ := own_ty HC2.out.row (by simpa using hy)
          exact ⟨h2, .inl h1⟩
    have F46 := KF5.out.trans ST6.out.fz
    have B46 := F46.toBelow HC4.out.lo.2 (fun y hy => (cs46 y hy).1)
    have B04 : Below lo w w4 := (F02.out.trans F24.out).toBelow HH.out.lo.2 (by simp; exact ⟨HH.out.lo.1, HH.out.hst.tab.lowm, HH.out.lo.1⟩)
    have KP4 : ∀ b arr ty, Bk w4 b arr ty → 92 ≠ ty → 138 ≠ ty → 191 ≠ ty → 132 ≠ ty → Bk w6 b arr ty := fun b arr ty b4 h1 h2 h3 h4 => by
      refine b4.fz F46 fun hm => ?_
      have hh : b ≠ hb := fun e => HB4.out.ne_ty b4 h1 e.symm
      rcases List.mem_append.1 hm with hm | hm
      · rcases List.mem_cons.1 hm with e | hm
        · exact hh e
        · exact NIV HC4.out.sk.row b4 h2 hm
      · rcases List.mem_cons.1 hm with e | hm
        · exact hh e
        rcases List.mem_append.1 hm with hm | hm
        · rw [List.map_append, List.mem_append] at hm
          rcases hm with hm | hm
          · obtain ⟨⟨s', c'⟩, hm', rfl⟩ := List.mem_map.1 hm
            obtain ⟨i, hi, hi'⟩ := List.getElem_of_mem hm'
            exact (HCA.out i s' c' (by rw [List.getElem?_eq_getElem hi, hi'])).1.ne_ty b4 h3 rfl
          · obtain rfl : b = c := by simpa using hm
            exact DL4.out.cs.cn.ne_ty b4 h3 rfl
        · exact NIV HC4.out.row b4 h4 hm
    have KP : Kept w w6 := fun b arr ty hb' h1 h2 h3 h4 => by
      have b2 := hb'.fz F02.out (HH.out.out hb' h1)
      have b4 := b2.fz F24.out (by simp; exact fun e => HB2.out.ne_ty b2 h1 e.symm)
      exact KP4 b arr ty b4 h1 h2 h3 h4
    have GO6 : Bk w6 go (capO x) 173 := KP4 go _ _ (DL4.out.outs.opt go (by simp)) (by decide) (by decide) (by decide) (by decide)
    have FZ : Fz w w6 (hb :: m :: (lv.ownBlock.toList ++ (l.map Prod.snd ++ outv.ownBlock.toList))) := ((F02.out.trans F24.out).trans F46).mono (fun y hy hm => by
      have hy3 : y < (w3.drewN 1).heap.size := Nat.lt_of_lt_of_le hy (Nat.le_trans SZ.out.2.2 SZ.out.1)
      have hc := DL4.out.cs.lo c (by simp)
      simp only [List.mem_append, List.mem_cons, List.not_mem_nil, or_false, List.map_append, List.map_cons, List.map_nil] at hm ⊢
      rcases hm with ((rfl | rfl) | rfl) | ((rfl | h) | (rfl | ((h | rfl) | h)))
      · exact .inl rfl
      · exact .inr (.inl rfl)
      · exact .inl rfl
      · exact .inl rfl
      · exact .inr (.inr (.inl h))
      · exact .inl rfl
      · exact .inr (.inr (.inr (.inl h)))
      · omega
      · exact .inr (.inr (.inr (.inr h))))
    refine bodyPost_ret (results_tmp2 rfl _ _ _) rfl (.inr ⟨x, HK4.out.1, HK4.out.2, rfl, ⟨lv', outv9, sk, c, go, s, hc9, GO6, cutW w6 (w3.drewN 1).heap.size, base, wb, wm, S, sd, st, rv, mp, st2, lg, fl, pb, q, g2, e0, c2, ?_, DL4.out.host F46 hc6 (fun y hy => (cs46 y hy).2)⟩, B04.trans B46, KP, FZ, HX.out⟩)
    rw [cutW_size (Nat.le_trans KF4.out.size F46.size)]
    exact Nat.le_trans SZ.out.2.2 SZ.out.1
end
end Go.Proofs.YtjpokeakemlffaaGreatDoor
/-
  A connection that waits: one tick that does nothing; a host's tick.
-/
namespace Go.Proofs.YtjpokeakemlffaaGreatDoor
open Go.RowKit
section
variable {w0 w : World} {base wb wm nb : Nat} {S : Nat → Value} {c sd st rv mp st2 lg fl pb q g2 c2 : Nat} {p1 p2 k s e0 : Int} {ov : Value} {gos : List Nat} {times rcv tries since : Int} {twice : Bool}
structure Idle (w0 w w' : World) (base wb wm nb : Nat) (S : Nat → Value) (now a : Int) (c sd st rv mp st2 lg fl pb q g2 : Nat) (p1 p2 k s e0 : Int) (c2 : Nat) (ov : Value) (gos : List Nat) (farr : Array Value) : Prop where
  ex : ∃ S', Dl w0 w' base wb wm nb S' now [(0, a)] c sd st rv mp st2 lg fl pb q g2 p1 p2 k s e0 c2 ov gos farr ∧ Fw w w' wb wm S S' (c :: fl :: ov.ownBlock.toList)
end
theorem Wl.off {w : World} {base b m nb x : Nat} {S : Nat → Value} {now : Int} {L : List Due} {arr : Array Value} {ty : TypeId} (h : Wl w base b m nb S now L) (hb : Bk w x arr ty) (h1 : 261 ≠ ty) (h2 : 195 ≠ ty) : ¬ Owns b m S x := by
  obtain ⟨N, hw, _⟩ := h.ex
  rintro (rfl | rfl | ⟨i, hi, e⟩)
  · exact (⟨hw.st.blk⟩ : Bk w x _ _).ne_ty hb h1 rfl
  · obtain ⟨D, ⟨es, clock, hm, _⟩, _⟩ := hw.mp
    rw [hb.eq] at hm
    cases hm
  · obtain ⟨_, cur, hk⟩ := own_ty (hw.st.rows i hi) e
    exact hk.ne_ty hb h2 rfl
def ownL (b m : Nat) (S : Nat → Value) : List Nat := b :: m :: (List.range 49).filterMap fun i => (S i).ownBlock
theorem mem_ownL {b m k : Nat} {S : Nat → Value} : k ∈ ownL b m S ↔ Owns b m S k := by
  unfold ownL Owns
  simp only [List.mem_cons, List.mem_filterMap, List.mem_range]
theorem Fw.fz {w w' : World} {b m : Nat} {S S' : Nat → Value} {cs : List Nat} (h : Fw w w' b m S S' cs) : Fz w w' (ownL b m S ++ cs) :=
  ⟨h.os, h.tape, h.output, h.size, fun k hk hn => h.block k hk (fun o => hn (List.mem_append.2 (.inl (mem_ownL.2 o)))) (fun e => hn (List.mem_append.2 (.inr e)))⟩
section
variable {lo : Nat} {w : World} {hb tb m nbt : Nat} {seed : Int} {ports lv : Value} {made tick : Int} {outv : Value} {M : Int → Option En} {k : Nat} {R : List SegR}
variable {w0 : World} {base wb wm nb : Nat} {S : Nat → Value} {sk c sd st rv mp st2 lg fl pb q g2 c2 : Nat} {p1 p2 x s e0 a : Int} {times rcv tries since : Int} {twice : Bool}
end
end Go.Proofs.YtjpokeakemlffaaGreatDoor
/-
  A host's Out; a new host.
-/
namespace Go.Proofs.YtjpokeakemlffaaGreatDoor
open Go.RowKit
theorem Below.from {lo B : Nat} {w w1 w' : World} (h : Below lo w1 w') (h1 : Below B w w1) (hl : B ≤ lo) : Below B w w' := h1.trans (h.mono hl)
end Go.Proofs.YtjpokeakemlffaaGreatDoor
/-
  A world's parts: a net; a host that listens; a host's counts.
-/
namespace Go.Proofs.YtjpokeakemlffaaGreatDoor
open Go.RowKit
set_option maxRecDepth 100000 in
theorem netnew_any (w : World) : Calls Tryz.prog 24 #[] w fun e w' => e = .returned (.pointer (some ⟨w.heap.size, 0, none⟩)) ∧ w' = w.alloc (.cells #[.slice none 0 0] 95) := by
  go_enter Tryz.func24, Tryz.ntmps24
  go_wp2_with fail
  go_ret
  exact ⟨rfl, rfl⟩
set_option maxRecDepth 100000 in
theorem iint_none (n : Int) (w : World) : Calls Tryz.prog 81 #[.slice none 0 0, .int .i64 n] w fun e w' => e = .returned (.int .i64 (-1)) ∧ w' = w := by
  go_enter Tryz.func81, Tryz.ntmps81
  go_wp2_with fail
  go_loopw [8] (fun i wr => i = .int .i64 0 ∧ wr = w) (fun _ _ => 0)
  case atStart => exact ⟨rfl, rfl⟩
  case round =>
    obtain ⟨rfl, rfl⟩ := hrel
    go_wp2_with fail
    go_ret
    exact ⟨rfl, rfl⟩
set_option maxRecDepth 100000 in
theorem cint_none (n : Int) (w : World) : Calls Tryz.prog 50 #[.slice none 0 0, .int .i64 n] w fun e w' => e = .returned (.bool false) ∧ w' = w := by
  go_enter Tryz.func50, Tryz.ntmps50
  go_wp2_with (first
    | (go_at_call 81
       go_loud (refine (iint_none _ _).mono ?_; rintro e X ⟨rfl, hX⟩)
       rw [hX]
       clear hX)
    | fail)
  go_ret
  exact ⟨by first | rfl | simp, rfl⟩
theorem infoInt : (Tryz.prog.info? 3).map (fun i => (i.zero, i.size, i.bytes)) = some (some (.int .i64 0), 1, 8) := by kernel_rfl
section
variable {lo : Nat} {w : World} {hb tb m nbt : Nat} {seed : Int} {ports lv : Value} {made tick : Int} {outv : Value} {M : Int → Option En} {k : Nat} {l : List (Nat × Nat)} {R : List SegR}
set_option maxRecDepth 100000 in
set_option maxHeartbeats 1600000 in
theorem hlisten_any {drawn : Int} {pv : Value} (h : Bk w hb (hostC seed drawn pv (.slice none 0 0) lv made tb tick outv) 92) :
    Calls Tryz.prog 25 #[.pointer (some ⟨hb, 0, none⟩), .int .i64 80] w fun e w' => ∃ ports', e = .returned (.int .i64 0) ∧ Bk w' hb (hostC seed drawn pv ports' lv made tb tick outv) 92 ∧ Fz w w' [hb] := by
  have c3 : w.cell? ⟨hb, 3, none⟩ = some (.slice none 0 0) := h.c 3
  have HB := Keep.mk h
  have KX1 := Keep.mk (Fz.alloc w (.cells #[.int .i64 80] 3))
  clear h
  go_enter Tryz.func25, Tryz.ntmps25
  go_wp2_with (first
    | (go_at_call 50
       go_loud (refine (cint_none _ _).mono ?_; rintro e X ⟨rfl, hX⟩)
       rw [hX]
       clear hX)
    | (refine append_one rfl (.tmp 26) (.tmp 28) 84 3 rfl Tryz.underlying84 infoInt rfl (by omega) (by omega) rfl w.heap.size [.int .i64 80] rfl rfl (fun j u hu => ((Bk.new w #[.int .i64 80] 3).c j).trans (by simpa using hu)) (by simp) (by simp [Value.oneCell']) ?_
       intro g' c' w2 ho2 hb2
       have F2 := KX1.out.trans (Fz.below hb2 (Nat.le_refl _))
       have HB2 := HB.out.fz F2 (by simp)
       have KF2 := Keep.mk F2
       have KHB2 := Keep.mk HB2
       have f3 := HB2.free 3
       have d3 : w2.cell? ⟨hb, 3, none⟩ = some (.slice none 0 0) := HB2.c 3
       clear ho2 hb2 F2 HB2)
    | fail)
  go_ret
  exact ⟨_, rfl, KHB2.out.set 3 (.slice (some ⟨g', 0, none⟩) 1 c'), (KF2.out.trans (Fz.set w2 hb 3 (.slice (some ⟨g', 0, none⟩) 1 c'))).mono (by simp)⟩
end
end Go.Proofs.YtjpokeakemlffaaGreatDoor
/-
  A world's deeds: a map from kinds to functions of the world's own.
-/
namespace Go.Proofs.YtjpokeakemlffaaGreatDoor
open Go.RowKit Go.Maps
abbrev fnV (wb n : Nat) : Value := .func (.func n) #[.pointer (some ⟨wb, 0, none⟩)] #[]
def fnR (wb : Nat) : Value → Option (DataW Unit × List MemPlace)
  | .func (.func n) ⟨[.pointer (some ⟨b, 0, none⟩)]⟩ ⟨[]⟩ => if b = wb then some (.lit (.int .i64 n), []) else none
  | .nilFunc => some (.nil, [])
  | _ => none
theorem fnR_mk (wb n : Nat) : fnR wb (fnV wb n) = some (.lit (.int .i64 n), []) := by simp [fnR]
theorem fnR_inv {wb n : Nat} {v : Value} {ps : List MemPlace} (h : fnR wb v = some (.lit (.int .i64 n), ps)) : v = fnV wb n := by
  unfold fnR at h
  split at h
  · rename_i n' b
    by_cases e : b = wb
    · subst e
      rw [if_pos rfl] at h
      have := congrArg Prod.fst (Option.some.inj h)
      simp only [DataW.lit.injEq, Lit.int.injEq, true_and] at this
      have e2 : n' = n := Int.ofNat.inj this
      rw [e2]
    · rw [if_neg e] at h; cases h
  · cases h
  · cases h
def setD (M : Int → Option Nat) (h : Int) (v : Nat) : Int → Option Nat := fun x => if x = h then some v else M x
def Dm (w : World) (m nb wb : Nat) (M : Int → Option Nat) : Prop :=
  ∃ D : DataW Unit, w.ownsMap Tryz.prog 3 (fnR wb) m nb D ∧ (∀ h, Maps.has D (.int .i64 h) = (M h).isSome) ∧ (∀ h n, M h = some n → ∀ z, D.atKey (.int .i64 h) z = .lit (.int .i64 n))
section
variable {w w' : World} {m nb wb : Nat} {M : Int → Option Nat}
theorem Dm.lt (h : Dm w m nb wb M) : m < w.heap.size := let ⟨_, h, _⟩ := h; h.lt
theorem Dm.same (h : Dm w m nb wb M) (hb : w'.heap[m]? = w.heap[m]?) : Dm w' m nb wb M := by
  obtain ⟨D, ⟨es, clock, h1, r1⟩, r⟩ := h
  exact ⟨D, ⟨es, clock, hb.trans h1, r1⟩, r⟩
theorem Dm.made (w : World) (wb : Nat) : Dm (w.alloc (.map #[] 0)) w.heap.size 0 wb (fun _ => none) :=
  ⟨.map [], World.ownsMap_made w _ _ _, fun _ => rfl, fun x t (h : (none : Option Nat) = some t) => (by cases h)⟩
theorem Dm.put (h : Dm w m nb wb M) (hn : nb < maxLen) (x : Int) (n : Nat) (hx : wfI x) : ∃ w', (Instr.mapUpdate 71 (.map (some m)) (.int .i64 x) (fnV wb n)).run Tryz.prog w = .ok () w' ∧ Dm w' m (nb + 1) wb (setD M x n) ∧ w.mapTurned w' m := by
  obtain ⟨D, h, h1, h2⟩ := h
  obtain ⟨w', hrun, ho, htu⟩ := h.store keyed Tryz.underlying71 hn (keyOf_int_mk Tryz.underlying3 hx) (fnR_mk wb n)
  refine ⟨w', hrun, ⟨_, ho, fun y => ?_, fun y s hy z => ?_⟩, htu⟩
  · by_cases e : y = x
    · subst e; rw [setD, if_pos rfl, has_put_same h.isMap (key_int y)]; rfl
    · rw [setD, if_neg e, has_put_other (key_ne e)]; exact h1 y
  · by_cases e : y = x
    · subst e; rw [setD, if_pos rfl] at hy; cases hy; rw [atKey_put_same h.isMap (key_int y)]
    · rw [setD, if_neg e] at hy; rw [atKey_put_other (key_ne e)]; exact h2 y s hy z
def doneF (wb : Nat) : Option Nat → Value
  | some n => fnV wb n
  | none => .nilFunc
theorem fnR_none {wb : Nat} {v : Value} {ps : List MemPlace} (h : fnR wb v = some (.nil, ps)) : v = .nilFunc := by
  unfold fnR at h
  split at h
  · rename_i n b
    by_cases e : b = wb
    · rw [if_pos e] at h
      cases h
    · rw [if_neg e] at h; cases h
  · rfl
  · cases h
theorem Dm.look (h : Dm w m nb wb M) {x : Int} (hx : wfI x) : (Instr.lookup 71 (.map (some m)) (.int .i64 x) true).run Tryz.prog w = .ok (.tuple #[doneF wb (M x), .bool (M x).isSome]) w := by
  obtain ⟨D, h, h1, h2⟩ := h
  obtain ⟨v, ps, hrun, hv⟩ := h.look_ok keyed Tryz.underlying71 (z := .nilFunc) (Tryz.zeroValue75 w) (zd := .nil) (zp := []) rfl (keyOf_int_mk Tryz.underlying3 hx)
  rw [h1] at hrun
  rw [hrun]
  cases hM : M x with
  | some n =>
    rw [h2 x n hM] at hv
    rw [fnR_inv hv]
    rfl
  | none =>
    rw [atKey_of_not_has (by rw [h1, hM]; rfl)] at hv
    rw [fnR_none hv]
    rfl
end
end Go.Proofs.YtjpokeakemlffaaGreatDoor
/-
  A world is made.
-/
namespace Go.Proofs.YtjpokeakemlffaaGreatDoor
open Go.RowKit Go.Maps
abbrev wldC (h0 h1 nb : Nat) (n0 n1 : Int) (lv : Value) (dv : Value) : Array Value := #[.pointer (some ⟨h0, 0, none⟩), .pointer (some ⟨h1, 0, none⟩), .pointer (some ⟨nb, 0, none⟩), .int .i64 n0, .int .i64 n1, lv, dv]
def deeds : Int → Option Nat := setD (setD (setD (setD (setD (setD (setD (setD (setD (setD (setD (setD (setD (setD (setD (setD (fun _ => none) 0 26) 1 27) 2 28) 3 29) 4 30) 5 31) 6 32) 7 33) 8 34) 9 35) 10 36) 11 37) 12 38) 13 39) 14 40) 15 41
structure HIdle (lo : Nat) (w : World) (hb tb m : Nat) (seed tick : Int) : Prop where
  blk : ∃ ports, Bk w hb (hostC seed 0 (.slice none 0 0) ports (.slice none 0 0) 0 tb tick (.slice none 0 0)) 92
  tab : Tb w lo tb m 0 4 (fun _ => none) 0
  lo : lo ≤ hb
theorem HIdle.fz {lo : Nat} {w w' : World} {hb tb m : Nat} {seed tick : Int} {cs : List Nat} (h : HIdle lo w hb tb m seed tick) (F : Fz w w' cs) (h1 : hb ∉ cs) (h2 : tb ∉ cs) (h3 : m ∉ cs) : HIdle lo w' hb tb m seed tick :=
  ⟨let ⟨p, hp⟩ := h.blk; ⟨p, hp.fz F h1⟩, h.tab.fz F h2 h3, h.lo⟩
theorem HIdle.low {lo : Nat} {w w' : World} {hb tb m : Nat} {seed tick : Int} {cs : List Nat} (h : HIdle lo w hb tb m seed tick) (F : Fz w w' cs) (hl : ∀ c ∈ cs, c < lo) : HIdle lo w' hb tb m seed tick :=
  h.fz F (fun e => by have := hl _ e; have := h.lo; omega) (fun e => by have := hl _ e; have := h.tab.lowb; omega) (fun e => by have := hl _ e; have := h.tab.lowm; omega)
theorem HIdle.hc {lo : Nat} {w : World} {hb tb m : Nat} {seed tick : Int} (h : HIdle lo w hb tb m seed tick) : ∃ ports, Hc lo w hb tb m 0 seed ports (.slice none 0 0) 0 tick (.slice none 0 0) (fun _ => none) 0 [] [] := by
  obtain ⟨p, hp⟩ := h.blk
  exact ⟨p, ⟨⟨0, _, [], hp, Prm.nil _⟩, h.tab⟩, Sk.nil _ _, ⟨fun _ => #[], fun i s c hi => by simp at hi⟩, by simp, World.ownsRow_nil _ _ _ _, h.lo, Nat.le_trans h.lo (Nat.le_of_lt hp.lt)⟩
structure Wnew (w w' : World) (wb h0 t0 m0 h1 t1 m1 nb dm lo1 : Nat) (a b : Int) : Prop where
  wld : Bk w' wb (wldC h0 h1 nb 0 0 (.slice none 0 0) (.map (some dm))) 73
  net : Bk w' nb #[.slice none 0 0] 95
  i0 : HIdle w.heap.size w' h0 t0 m0 a 0
  i1 : HIdle lo1 w' h1 t1 m1 b 0
  dms : Dm w' dm 16 wb deeds
  lt0 : h0 < lo1 ∧ t0 < lo1 ∧ m0 < lo1 ∧ w.heap.size ≤ lo1
  lt1 : h1 < nb ∧ t1 < nb ∧ m1 < nb ∧ lo1 ≤ nb ∧ nb < wb ∧ wb < dm
  below : Below w.heap.size w w'
set_option maxRecDepth 100000 in
set_option maxHeartbeats 6400000 in
theorem wnew_any (a b : Int) (w : World) : Calls Tryz.prog 10 #[.int .u64 a, .int .u64 b] w fun e w' => ∃ wb h0 t0 m0 h1 t1 m1 nb dm lo1, e = .returned (.pointer (some ⟨wb, 0, none⟩)) ∧ Wnew w w' wb h0 t0 m0 h1 t1 m1 nb dm lo1 a b := by
  have NA := Keep.mk (hnew_any a w)
  have NB : Keep (∀ W, Calls Tryz.prog 23 #[.int .u64 b] W fun e w' => ∃ hb tb m, e = .returned (.pointer (some ⟨hb, 0, none⟩)) ∧ W.heap.size ≤ hb ∧ hb ≠ m ∧
    Bk w' hb (hostC b 0 (.slice none 0 0) (.slice none 0 0) (.slice none 0 0) 0 tb 0 (.slice none 0 0)) 92 ∧ Tb w' W.heap.size tb m 0 4 (fun _ => none) 0 ∧ Below W.heap.size W w') := ⟨fun W => hnew_any b W⟩
  go_enter Tryz.func10, Tryz.ntmps10
  go_wp2_with (first
    | (go_at_call 23
       go_loud (refine NA.out.mono ?_; rintro e w1 ⟨h0, t0, m0, rfl, l0, e0, k0, b0, y0⟩)
       have K0 := Keep.mk (And.intro l0 (And.intro e0 (And.intro k0 (And.intro b0 y0))))
       clear l0 e0 k0 b0 y0 NA)
    | (go_at_call 23
       go_loud (refine (NB.out _).mono ?_; rintro e w2 ⟨h1, t1, m1, rfl, l1, e1, k1, b1, y1⟩)
       have K1 := Keep.mk (And.intro l1 (And.intro e1 (And.intro k1 (And.intro b1 y1))))
       clear l1 e1 k1 b1 y1)
    | (go_at_call 24
       go_loud (refine (netnew_any _).mono ?_; rintro e X ⟨rfl, hX⟩)
       rw [hX]
       clear hX)
    | fail)
  obtain ⟨w4, hw4⟩ : ∃ w4, (w2.alloc (.cells #[.slice none 0 0] 95)).alloc (.cells (wldC h0 h1 w2.heap.size 0 0 (.slice none 0 0) (.map none)) 73) = w4 := ⟨_, rfl⟩
  have X24 : Fz w2 w4 [] := hw4 ▸ ((Fz.alloc w2 _).trans (Fz.alloc _ _)).mono (by simp)
  have W4 : Bk w4 (w2.heap.size + 1) (wldC h0 h1 w2.heap.size 0 0 (.slice none 0 0) (.map none)) 73 := by
    have := Bk.new (w2.alloc (.cells #[.slice none 0 0] 95)) (wldC h0 h1 w2.heap.size 0 0 (.slice none 0 0) (.map none)) 73
    rw [hw4] at this
    simpa using this
  have N4 : Bk w4 w2.heap.size #[.slice none 0 0] 95 := hw4 ▸ (Bk.new w2 _ _).fz (Fz.alloc _ _) (by simp)
  have hs1 := K0.out.2.2.2.2.size
  have H1 := K1.out.2.2.1.fz X24 (by simp)
  have H0 := (K0.out.2.2.1.fz (Fz.below K1.out.2.2.2.2 (Nat.le_refl _)) (by simp)).fz X24 (by simp)
  have T1 := K1.out.2.2.2.1.fz X24 (by simp) (by simp)
  have T0 := (K0.out.2.2.2.1.fz (Fz.below K1.out.2.2.2.2 (Nat.le_refl _)) (by simp) (by simp)).fz X24 (by simp) (by simp)
  have LT : Keep (w.heap.size ≤ h0 ∧ h0 < w1.heap.size ∧ t0 < w1.heap.size ∧ m0 < w1.heap.size ∧ w1.heap.size ≤ h1 ∧ h1 < w2.heap.size ∧ t1 < w2.heap.size ∧ m1 < w2.heap.size ∧ w.heap.size ≤ w1.heap.size ∧ w1.heap.size ≤ w2.heap.size) :=
    ⟨K0.out.1, K0.out.2.2.1.lt, K0.out.2.2.2.1.lt, K0.out.2.2.2.1.mp.lt, K1.out.1, K1.out.2.2.1.lt, K1.out.2.2.2.1.lt, K1.out.2.2.2.1.mp.lt, hs1, K1.out.2.2.2.2.size⟩
  have NE : Keep (h0 ≠ m0 ∧ h1 ≠ m1 ∧ h0 ≠ t0 ∧ h1 ≠ t1) := ⟨K0.out.2.1, K1.out.2.1, K0.out.2.2.1.ne_ty K0.out.2.2.2.1.bk (by decide), K1.out.2.2.1.ne_ty K1.out.2.2.2.1.bk (by decide)⟩
  have F04 : Keep (Below w.heap.size w w4) := ⟨(K0.out.2.2.2.2.trans (K1.out.2.2.2.2.mono hs1)).trans (X24.toBelow (Nat.le_trans hs1 K1.out.2.2.2.2.size) (by simp))⟩
  have KW4 := Keep.mk W4
  have KN4 := Keep.mk N4
  have KH0 := Keep.mk H0
  have KH1 := Keep.mk H1
  have KT0 := Keep.mk T0
  have KT1 := Keep.mk T1
  have u0 := W4.c 0
  have u1 := W4.c 1
  simp at u0 u1
  rw [hw4]
  clear hw4 X24 W4 N4 hs1 H1 H0 T1 T0 K0 K1 NB
  go_wp2_with fail
  have IX0 : ∀ W : World, (Instr.index 67 (.agg #[.pointer (some ⟨h0, 0, none⟩), .pointer (some ⟨h1, 0, none⟩)]) (.int .i64 0)).run Tryz.prog W = .ok (.pointer (some ⟨h0, 0, none⟩)) W := fun W => by kernel_rfl
  have IX1 : ∀ W : World, (Instr.index 67 (.agg #[.pointer (some ⟨h0, 0, none⟩), .pointer (some ⟨h1, 0, none⟩)]) (.int .i64 1)).run Tryz.prog W = .ok (.pointer (some ⟨h1, 0, none⟩)) W := fun W => by kernel_rfl
  go_loopw [20] (fun i wr => ∃ j : Nat, ((j = 0 ∧ i = .int .i64 0) ∨ (j = 1 ∧ i = .int .i64 1) ∨ (j = 2 ∧ i = .int .i64 2)) ∧ Keep (∃ p0 p1, (j = 0 → p0 = .slice none 0 0) ∧ (j ≤ 1 → p1 = .slice none 0 0) ∧ Bk wr h0 (hostC a 0 (.slice none 0 0) p0 (.slice none 0 0) 0 t0 0 (.slice none 0 0)) 92 ∧ Bk wr h1 (hostC b 0 (.slice none 0 0) p1 (.slice none 0 0) 0 t1 0 (.slice none 0 0)) 92 ∧ Fz w4 wr [h0, h1])) (fun i _ => 2 - (intOf i).toNat)
  case atStart => exact ⟨0, .inl ⟨rfl, rfl⟩, ⟨_, _, fun _ => rfl, fun _ => rfl, KH0.out, KH1.out, (Fz.refl _).mono (by simp)⟩⟩
  case round =>
    obtain ⟨j, ⟨rfl, rfl⟩ | ⟨rfl, rfl⟩ | ⟨rfl, rfl⟩, HQ⟩ := hrel
    all_goals obtain ⟨p0, p1, q0, q1, b0, b1, fz⟩ := HQ.out
    · obtain rfl := q0 rfl
      have LI := Keep.mk (hlisten_any b0)
      have KB1 := Keep.mk b1
      have KF := Keep.mk fz
      have Q1 := Keep.mk q1
      clear b0 b1 fz q1 q0 HQ
      go_wp2_with (first
        | (go_at_call 25
           go_loud (refine LI.out.mono ?_; rintro e w5 ⟨p5, rfl, b5, f5⟩)
           have K5 : Keep (Bk w5 h0 (hostC a 0 (.slice none 0 0) p5 (.slice none 0 0) 0 t0 0 (.slice none 0 0)) 92 ∧ Bk w5 h1 (hostC b 0 (.slice none 0 0) p1 (.slice none 0 0) 0 t1 0 (.slice none 0 0)) 92 ∧ Fz w4 w5 [h0, h1]) := ⟨b5, KB1.out.fz f5 (by simp; have := LT.out; omega), (KF.out.trans f5).mono (by simp <;> omega)⟩
           clear b5 f5)
        | fail)
      go_roundw
      case rel => exact ⟨1, .inr (.inl ⟨rfl, by first | rfl | simp⟩), ⟨p5, p1, fun h => by omega, fun _ => Q1.out (by omega), K5.out⟩⟩
      case measure => simp [intOf]
    · obtain rfl := q1 (Nat.le_refl _)
      have LI := Keep.mk (hlisten_any b1)
      have KB1 := Keep.mk b0
      have KF := Keep.mk fz
      clear b0 b1 fz q1 q0 HQ
      go_wp2_with (first
        | (go_at_call 25
           go_loud (refine LI.out.mono ?_; rintro e w5 ⟨p5, rfl, b5, f5⟩)
           have K5 : Keep (Bk w5 h0 (hostC a 0 (.slice none 0 0) p0 (.slice none 0 0) 0 t0 0 (.slice none 0 0)) 92 ∧ Bk w5 h1 (hostC b 0 (.slice none 0 0) p5 (.slice none 0 0) 0 t1 0 (.slice none 0 0)) 92 ∧ Fz w4 w5 [h0, h1]) := ⟨KB1.out.fz f5 (by simp; have := LT.out; omega), b5, (KF.out.trans f5).mono (by simp <;> omega)⟩
           clear b5 f5)
        | fail)
      go_roundw
      case rel => exact ⟨2, .inr (.inr ⟨rfl, by first | rfl | simp⟩), ⟨p0, p5, fun h => by omega, fun h => by omega, K5.out⟩⟩
      case measure => simp [intOf]
    · have wbs := KW4.out.lt
      have hmk : (Instr.makeMap 71 none).run Tryz.prog wr = .ok (.map (some wr.heap.size)) (wr.alloc (.map #[] 0)) := rfl
      have d0 := Dm.made wr (w2.heap.size + 1)
      obtain ⟨v1, p1, d1, t1⟩ := d0.put (by unfold maxLen; omega) 0 26 (wfI_of (by omega) (by omega))
      obtain ⟨v2, p2, d2, t2⟩ := d1.put (by unfold maxLen; omega) 1 27 (wfI_of (by omega) (by omega))
      obtain ⟨v3, p3, d3, t3⟩ := d2.put (by unfold maxLen; omega) 2 28 (wfI_of (by omega) (by omega))
      obtain ⟨v4, p4, d4, t4⟩ := d3.put (by unfold maxLen; omega) 3 29 (wfI_of (by omega) (by omega))
      obtain ⟨v5, p5, d5, t5⟩ := d4.put (by unfold maxLen; omega) 4 30 (wfI_of (by omega) (by omega))
      obtain ⟨v6, p6, d6, t6⟩ := d5.put (by unfold maxLen; omega) 5 31 (wfI_of (by omega) (by omega))
      obtain ⟨v7, p7, d7, t7⟩ := d6.put (by unfold maxLen; omega) 6 32 (wfI_of (by omega) (by omega))
      obtain ⟨v8, p8, d8, t8⟩ := d7.put (by unfold maxLen; omega) 7 33 (wfI_of (by omega) (by omega))
      obtain ⟨v9, p9, d9, t9⟩ := d8.put (by unfold maxLen; omega) 8 34 (wfI_of (by omega) (by omega))
      obtain ⟨v10, p10, d10, t10⟩ := d9.put (by unfold maxLen; omega) 9 35 (wfI_of (by omega) (by omega))
      obtain ⟨v11, p11, d11, t11⟩ := d10.put (by unfold maxLen; omega) 10 36 (wfI_of (by omega) (by omega))
      obtain ⟨v12, p12, d12, t12⟩ := d11.put (by unfold maxLen; omega) 11 37 (wfI_of (by omega) (by omega))
      obtain ⟨v13, p13, d13, t13⟩ := d12.put (by unfold maxLen; omega) 12 38 (wfI_of (by omega) (by omega))
      obtain ⟨v14, p14, d14, t14⟩ := d13.put (by unfold maxLen; omega) 13 39 (wfI_of (by omega) (by omega))
      obtain ⟨v15, p15, d15, t15⟩ := d14.put (by unfold maxLen; omega) 14 40 (wfI_of (by omega) (by omega))
      obtain ⟨v16, p16, d16, t16⟩ := d15.put (by unfold maxLen; omega) 15 41 (wfI_of (by omega) (by omega))
      have XM : Fz wr v16 [wr.heap.size] := (((((((((((((((((Fz.alloc wr (.map #[] 0)).trans (Ft.turned t1).fz).trans (Ft.turned t2).fz).trans (Ft.turned t3).fz).trans (Ft.turned t4).fz).trans (Ft.turned t5).fz).trans (Ft.turned t6).fz).trans (Ft.turned t7).fz).trans (Ft.turned t8).fz).trans (Ft.turned t9).fz).trans (Ft.turned t10).fz).trans (Ft.turned t11).fz).trans (Ft.turned t12).fz).trans (Ft.turned t13).fz).trans (Ft.turned t14).fz).trans (Ft.turned t15).fz).trans (Ft.turned t16).fz).mono (by simp)
      have XM0 : Fz wr v16 [] := XM.mono (fun k hk hm => by simp at hm; omega)
      have lts := LT.out
      have W5 := (KW4.out.fz fz (by simp; omega)).fz XM0 (by simp)
      have f6 := W5.free 6
      have u6 : v16.cell? ⟨w2.heap.size + 1, 6, none⟩ = some (.map none) := W5.c 6
      have KW5 := Keep.mk W5
      have KN5 := Keep.mk ((KN4.out.fz fz (by simp; omega)).fz XM0 (by simp))
      have KD := Keep.mk d16
      have KF := Keep.mk (fz.trans XM0)
      have KB := Keep.mk (And.intro (b0.fz XM0 (by simp)) (b1.fz XM0 (by simp)))
      have SZ : Keep (w4.heap.size ≤ wr.heap.size ∧ w2.heap.size + 1 < w4.heap.size) := ⟨fz.size, wbs⟩
      clear HQ q0 q1 b0 b1 fz lts XM XM0 W5 wbs d1 t1 d2 t2 d3 t3 d4 t4 d5 t5 d6 t6 d7 t7 d8 t8 d9 t9 d10 t10 d11 t11 d12 t12 d13 t13 d14 t14 d15 t15 d16 t16 d0
      go_wp2_with fail
      go_ret
      have lt := LT.out
      have ne := NE.out
      have tl1 := KT1.out.lowb
      have tl2 := KT1.out.lowm
      have tl3 := KT0.out.lowb
      have tl4 := KT0.out.lowm
      have sz := SZ.out
      have dl := KD.out.lt
      have F9 : Fz w4 (v16.setCell ⟨w2.heap.size + 1, 6, none⟩ (.map (some wr.heap.size))) [h0, h1, w2.heap.size + 1] := (KF.out.trans (Fz.set v16 (w2.heap.size + 1) 6 (.map (some wr.heap.size)))).mono (by simp)
      have FS := Fz.set v16 (w2.heap.size + 1) 6 (.map (some wr.heap.size))
      refine ⟨_, h0, t0, m0, h1, t1, m1, w2.heap.size, wr.heap.size, w1.heap.size, rfl, ⟨KW5.out.set 6 _, KN5.out.fz FS (by simp), ⟨⟨_, KB.out.1.fz FS (by simp; omega)⟩, KT0.out.fz F9 (by simp; omega) (by simp; omega), lt.1⟩, ⟨⟨_, KB.out.2.fz FS (by simp; omega)⟩, KT1.out.fz F9 (by simp; omega) (by simp; omega), lt.2.2.2.2.1⟩, KD.out.same (FS.block _ dl (by simp; omega)), ⟨lt.2.1, lt.2.2.1, lt.2.2.2.1, lt.2.2.2.2.2.2.2.2.1⟩, ⟨lt.2.2.2.2.2.1, lt.2.2.2.2.2.2.1, lt.2.2.2.2.2.2.2.1, lt.2.2.2.2.2.2.2.2.2, by omega, by omega⟩, F04.out.trans (F9.toBelow (by omega) (by simp; omega))⟩⟩
end Go.Proofs.YtjpokeakemlffaaGreatDoor
/-
  A world's two hosts, told by their number.
-/
namespace Go.Proofs.YtjpokeakemlffaaGreatDoor
open Go.RowKit Go.Maps
theorem two_hosts (h0 h1 : Nat) : (∀ W : World, (Instr.index 67 (.agg #[.pointer (some ⟨h0, 0, none⟩), .pointer (some ⟨h1, 0, none⟩)]) (.int .i64 0)).run Tryz.prog W = .ok (.pointer (some ⟨h0, 0, none⟩)) W) ∧
    (∀ W : World, (Instr.index 67 (.agg #[.pointer (some ⟨h0, 0, none⟩), .pointer (some ⟨h1, 0, none⟩)]) (.int .i64 1)).run Tryz.prog W = .ok (.pointer (some ⟨h1, 0, none⟩)) W) :=
  ⟨fun W => by kernel_rfl, fun W => by kernel_rfl⟩
end Go.Proofs.YtjpokeakemlffaaGreatDoor
