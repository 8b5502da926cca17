/-
  Layer 4: hmac.Of.
-/
import Derived.Laws.OwnMore
import Derived.Test.YtkcmemhoabadaaaDoorHmA
namespace Go.Proofs.YtkcmemhoabadaaaDoor
open Go.RowKit

theorem encPOne (x : Pc) : ∀ u ∈ encP x, u.oneCell' = true := by simp [encP, Value.oneCell']
theorem infoP : (Tryd.prog.info? 22).map (fun i => (i.zero, i.size, i.bytes)) = some (some (.slice none 0 0), 1, 24) := by kernel_rfl
theorem digB_byte (l : List Int) : ∀ z ∈ digB l, 0 ≤ z ∧ z ≤ 255 := fun z hz => by
  obtain ⟨x, _, hx⟩ := List.mem_flatMap.1 hz
  exact beB_byte _ _ z hx
theorem below_setCells {B : Nat} {a : World} {b : Nat} (hB : B ≤ b) : ∀ (cs : List Value) (o : Nat) (w : World), Below B a w → Below B a (w.setCells b o cs)
  | [], _, _, h => h
  | v :: r, o, w, h => by
    rw [World.setCells]
    exact below_setCells hB r (o + 1) _ (h.setCell (p := ⟨b, o, none⟩) hB v)
theorem there_row {w : World} {g : Nat} {t : TypeId} {n : Nat} (h : w.heap[g]? = some (.cells (bArr (List.replicate n 0)) t (0, 0))) : w.there g 0 n := fun j hj => by
  refine ⟨?_, ?_⟩
  · rw [Nat.zero_add, bArr_cell h j (by simpa using hj)]; rfl
  · exact bArr_free h _
theorem results_cell_mid {P : Program} {fn : Func} {p : Tmp} {ty : TypeId} (h : fn.results = #[.cell p ty]) (tmps : Array Value) (w : World) (g : Nat) (cs : List Value) (d : TypeDesc)
    (hp : tmps.getD p undef = .pointer (some ⟨g, 0, none⟩)) (hc : w.rangeAt g 0 cs)
    (hu : P.underlying ty = some d) (hd : d.isRow = true) (hi : (P.info? ty).map (·.size) = some cs.length) :
    (results fn tmps).run P w = .ok (.agg cs.toArray) w := by
  have hp' : tmps[p]?.getD undef = .pointer (some ⟨g, 0, none⟩) := by simpa using hp
  simp [results, h, hp', asAddr, run_loadVar_mid w g 0 ty cs d hc hu hd hi]

/-- What a key counts as; the digest with a key. -/
def keyB (key : List Int) : List Int := if 64 < key.length then digB key else key
def hmB (key t : List Int) : List Int := digB (xorB (keyB key) 92 ++ digB (xorB (keyB key) 54 ++ t))
theorem hmB_length (key t : List Int) : (hmB key t).length = 32 := digB_length _

set_option maxRecDepth 100000 in
set_option maxHeartbeats 4000000 in
theorem hmOf_short (Ak : Option Addr) (nk ck : Nat) (K : List Int) (B : Option Addr) (m d : Nat) (ps : List Pc) (w : World) (ha : Arg w 1 encB Ak nk ck K) (hKb : ∀ z ∈ K, 0 ≤ z ∧ z ≤ 255) (hn : nk ≤ 64)
    (hb : Arg w 1 encP B m d ps) (hok : PcsOk w ps) (hm : m ≤ 100000) (hg : (glue ps).length ≤ 50000) (hgb : ∀ z ∈ glue ps, 0 ≤ z ∧ z ≤ 255) :
    Calls Tryd.prog 23 #[.slice Ak nk ck, .slice B m d] w fun e w' => e = .returned (.agg (bArr (hmB K (glue ps)))) ∧ Below w.heap.size w w' := by
  obtain ⟨iP, hiP, hp0, hp1, hp2⟩ := info_parts infoP
  have hKey : Keep (keyB K = K) := ⟨by rw [keyB, if_neg (by rw [ha.hlen]; omega)]⟩
  have HKb := Lib.hid hKb
  have HGb := Lib.hid hgb
  have ha1 := Keep.mk ha
  have hb1 := Keep.mk hb
  have hok1 := Keep.mk hok
  clear ha hb hok hKb hgb
  go_enter Tryd.func23, Tryd.ntmps23
  go_wp2_with fail
  have hb0 : Below w.heap.size w (w.alloc (.cells (bArr (List.replicate 32 0)) 24)) := (Below.refl _ w).alloc (Nat.le_refl _) _
  have hr0 : (w.alloc (.cells (bArr (List.replicate 32 0)) 24)).heap[w.heap.size]? = some (.cells (bArr (List.replicate 32 0)) 24 (0, 0)) := heap_alloc_new _ _
  change Calls _ _ _ (w.alloc (.cells (bArr (List.replicate 32 0)) 24)) _
  generalize w.alloc (.cells (bArr (List.replicate 32 0)) 24) = wk at *
  have HK := Keep.mk (ha1.out.below hb0)
  have HPs := Keep.mk (hb1.out.below hb0)
  have HOk := Keep.mk (hok1.out.below hb0)
  have HBk := Lib.hid hb0
  have HRk := Keep.mk hr0
  clear hb0 hr0 ha1 hb1 hok1
  refine (padded_any Ak nk ck K 54 wk HK.out (by omega)).mono ?_
  rintro e w3 ⟨rfl, hr3, hb3⟩
  have hp3 := Arg.row (t := 77) (fr := (0, 0)) hr3 64 (xorB_length K 54 (by rw [HK.out.hlen]; omega)) (by decide)
  have HP3 := Keep.mk hp3
  have HPs3 := Keep.mk (HPs.out.below hb3)
  have HOk3 := Keep.mk (HOk.out.below hb3)
  have HK3 := Keep.mk (HK.out.below hb3)
  have HB3 := Lib.hid (HBk.out.trans (hb3.mono HBk.out.size))
  have HR3 := Keep.mk ((hb3.block _ (lt_of_block HRk.out)).trans HRk.out)
  clear hr3 hb3 hp3 HBk HRk
  go_wp2_with (first
    | (refine wpList_append_rd rfl (.tmp 16) (.tmp 17) 29 rfl w3.heap.size 22 iP (.slice none 0 0) 1 24 Tryd.underlying29 hiP hp0 hp1 hp2 rfl (by decide) (.slice (some ⟨w3.heap.size, 0, none⟩) 1 1) 1 [.slice (some ⟨wk.heap.size, 0, none⟩) 64 64] rfl (World.ownsRow_lit w3 #[.slice (some ⟨wk.heap.size, 0, none⟩) 64 64] 1 (Nat.le_refl _) (by decide) rfl) B m d _ encP ps rfl HPs3.out.hnil HPs3.out.hlen encP_length ((HPs3.out.alloc _).rd) encPOne (by simp only [maxLen]; omega) (by omega) (by simp) ?_
       intro v4 w4 hown4 hgr4 hat4
       have hb4 : Below w3.heap.size w3 w4 := ((Below.refl _ w3).alloc (Nat.le_refl _) _).grown hgr4 (by simp) (fun j e => (by simp [Value.ownBlock] at e; omega))
       have hown4' : w4.ownsRow w3.heap.size 22 1 v4 (1 + m) ((⟨some ⟨wk.heap.size, 0, none⟩, 64, 64, xorB K 54⟩ :: ps : List Pc).flatMap encP) := hown4
       obtain ⟨A4, c4, rfl, ha4⟩ := Arg.of_own (by decide) encP_length hown4'
       have HA4 := Keep.mk ha4
       have HB4 := Keep.mk hb4
       clear hgr4 hat4 hown4 ha4 hown4' hb4)
    | fail)
  have hok4 : PcsOk w4 (⟨some ⟨wk.heap.size, 0, none⟩, 64, 64, xorB K 54⟩ :: ps) := fun p hp => by
    rcases List.mem_cons.1 hp with rfl | hp
    · exact HP3.out.below HB4.out
    · exact (HOk3.out p hp).below HB4.out
  have hgl : glue (⟨some ⟨wk.heap.size, 0, none⟩, 64, 64, xorB K 54⟩ :: ps) = xorB K 54 ++ glue ps := by simp [glue]
  have hgn : (xorB K 54 ++ glue ps).length ≤ 60000 := by rw [List.length_append, xorB_length K 54 (by rw [HK.out.hlen]; omega)]; omega
  have hgb : ∀ z ∈ xorB K 54 ++ glue ps, 0 ≤ z ∧ z ≤ 255 := fun z hz => (List.mem_append.1 hz).elim (xorB_byte z) (HGb.out z)
  refine (of_any A4 (1 + m) c4 _ w4 HA4.out hok4 (by omega) (by rw [hgl]; omega) (by rw [hgl]; exact hgb)).mono ?_
  rintro e w5 ⟨rfl, hb5⟩
  rw [hgl]
  obtain ⟨D, hD⟩ : ∃ D, digB (xorB K 54 ++ glue ps) = D := ⟨_, rfl⟩
  have hDb : ∀ z ∈ D, 0 ≤ z ∧ z ≤ 255 := by rw [← hD]; exact digB_byte _
  have hDl : D.length = 32 := by rw [← hD, digB_length]
  rw [hD]
  have HD := Keep.mk hD
  have HDb := Lib.hid hDb
  have HDl := Keep.mk hDl
  have HB35 := Keep.mk (HB4.out.trans (hb5.mono HB4.out.size))
  have HB5 := Lib.hid (HB3.out.trans (HB35.out.mono HB3.out.size))
  have HK5 := Keep.mk (HK3.out.below HB35.out)
  have HR5 := Keep.mk ((HB35.out.block _ (lt_of_block HR3.out)).trans HR3.out)
  have H32 : Hid ((Tryd.prog.info? 24).map (·.size) = some (bArr D).size) := Lib.hid (by rw [bArr_size, hDl]; exact infoA32)
  have HSz : Hid ((bArr (List.replicate 32 0)).size = (bArr D).size) := Lib.hid (by rw [bArr_size, bArr_size, hDl]; rfl)
  have hA : Keep ((w5.alloc (.cells (bArr (List.replicate 32 0)) 24)).heap[w5.heap.size]? = some (.cells (bArr (List.replicate 32 0)) 24 (0, 0))) := ⟨heap_alloc_new _ _⟩
  clear hok4 hgl hgn hgb hb5 hD hDb hDl HP3 HPs3 HOk3 HK3 HB3 HR3 HA4 HB4 HB35
  go_wp2_with (first
    | (refine wpList_store_row rfl 24 _ _ rfl w5.heap.size 24 (bArr (List.replicate 32 0)) (bArr D) rfl rfl hA.out H32.out HSz.out (bArr_one _) ?_)
    | fail)
  have hB : ((w5.alloc (.cells (bArr (List.replicate 32 0)) 24)).setRow w5.heap.size (bArr D)).heap[w5.heap.size]? = some (.cells (bArr D) 24 (0, 0)) := setRow_heap _ _ _ _ _ _ hA.out
  have hb6 : Below w5.heap.size w5 ((w5.alloc (.cells (bArr (List.replicate 32 0)) 24)).setRow w5.heap.size (bArr D)) := below_setRow ((Below.refl _ w5).alloc (Nat.le_refl _) _) (Nat.le_refl _) _
  change Code.wp _ _ _ _ ((w5.alloc (.cells (bArr (List.replicate 32 0)) 24)).setRow w5.heap.size (bArr D))
  generalize (w5.alloc (.cells (bArr (List.replicate 32 0)) 24)).setRow w5.heap.size (bArr D) = w6 at *
  have HRow := Keep.mk (Arg.row hB 32 HDl.out (by decide))
  have HB6 := Lib.hid (HB5.out.trans (hb6.mono HB5.out.size))
  have HK6 := Keep.mk (HK5.out.below hb6)
  have HR6 := Keep.mk ((hb6.block _ (lt_of_block HR5.out)).trans HR5.out)
  clear hB hb6 hA HK5 HB5 HR5 H32 HSz
  go_region_held3 (fun W => Below w.heap.size w W) (first | with_reducible assumption | with_reducible exact HB6.out.drew | with_reducible exact HB7.alloc HB7.size _)
    (first
      | (go_at_call 37; refine (padded_any Ak nk ck K 92 _ HK6.out.drew (by omega)).mono ?_; rintro e w7 ⟨rfl, hr7, hb7⟩; have HP7 := Keep.mk (Arg.row (t := 77) (fr := (0, 0)) hr7 64 (xorB_length K 92 (by rw [HK6.out.hlen]; omega)) (by decide)); have HRow7 := Keep.mk (HRow.out.drew.below hb7); have HB7 := HB6.out.drew.trans (hb7.mono HB6.out.drew.size); have HR7 := Keep.mk ((hb7.block _ (lt_of_block HR6.out)).trans HR6.out); clear hr7 hb7)
      | (go_at_call 14; refine (of_new w7 _ 2 [⟨some ⟨w6.heap.size, 0, none⟩, 64, 64, xorB K 92⟩, ⟨some ⟨w5.heap.size, 0, none⟩, 32, 32, D⟩] (xorB K 92 ++ D) rfl rfl ?_ (by simp [glue]) (by omega) ?_ ?_).mono ?_
         · intro p hp
           simp only [List.mem_cons, List.not_mem_nil, or_false] at hp
           rcases hp with rfl | rfl
           · exact HP7.out
           · exact HRow7.out
         · rw [List.length_append, HDl.out, xorB_length K 92 (by rw [HK6.out.hlen]; omega)]; omega
         · exact fun z hz => (List.mem_append.1 hz).elim (xorB_byte z) (HDb.out z)
         rintro e w8 ⟨rfl, hb8⟩
         obtain ⟨E, hE⟩ : ∃ E, digB (xorB K 92 ++ D) = E := ⟨_, rfl⟩
         rw [hE]
         have HE := Keep.mk hE
         have hEl : E.length = 32 := by rw [← hE, digB_length]
         rw [show bArr E = (E.map (Value.int .u8)).toArray from rfl]
         have HB8 := HB7.trans (hb8.mono HB7.size)
         have HR8 := (hb8.block _ (lt_of_block HR7.out)).trans HR7.out
         have hT : w8.there w.heap.size 0 (E.map (Value.int .u8)).toArray.size := by
           rw [show (E.map (Value.int .u8)).toArray.size = 32 from by simp [hEl]]
           exact there_row HR8
         have HBs := below_setCells (Nat.le_refl w.heap.size) (E.map (Value.int .u8)) 0 w8 HB8
         have hOne : ∀ v ∈ E.map (Value.int .u8), v.oneCell' = true := fun v hv => by obtain ⟨z, _, rfl⟩ := List.mem_map.1 hv; rfl
         have hI : (Tryd.prog.info? 24).map (·.size) = some (E.map (Value.int .u8)).toArray.size := by rw [show (E.map (Value.int .u8)).toArray.size = 32 from by simp [hEl]]; exact infoA32
         have HT := Keep.mk hT
         have HI := Keep.mk hI
         clear hE hEl hb8 HR8))
  go_wp2_with fail
  refine bodyPost_ret (v := .agg (E.map (Value.int .u8)).toArray) (results_cell_mid Tryd.results23 _ _ w.heap.size (E.map (Value.int .u8)) (.array 32 5) rfl (World.rangeAt_setCells_same w8 w.heap.size 0 _ (by have := HT.out; rw [show (E.map (Value.int .u8)).toArray.size = (E.map (Value.int .u8)).length from by simp] at this; exact this)) Tryd.underlying24 rfl (by have := HI.out; rw [show (E.map (Value.int .u8)).toArray.size = (E.map (Value.int .u8)).length from by simp] at this; exact this)) rfl ⟨?_, HBs⟩
  rw [hmB, hKey.out, HD.out, HE.out]
  rfl
set_option maxRecDepth 100000 in
set_option maxHeartbeats 4000000 in
theorem hmOf_long (Ak : Option Addr) (nk ck : Nat) (K : List Int) (B : Option Addr) (m d : Nat) (ps : List Pc) (w : World) (ha : Arg w 1 encB Ak nk ck K) (hKb : ∀ z ∈ K, 0 ≤ z ∧ z ≤ 255) (hn : 64 < nk) (hn2 : nk ≤ 50000)
    (hb : Arg w 1 encP B m d ps) (hok : PcsOk w ps) (hm : m ≤ 100000) (hg : (glue ps).length ≤ 50000) (hgb : ∀ z ∈ glue ps, 0 ≤ z ∧ z ≤ 255) :
    Calls Tryd.prog 23 #[.slice Ak nk ck, .slice B m d] w fun e w' => e = .returned (.agg (bArr (hmB K (glue ps)))) ∧ Below w.heap.size w w' := by
  obtain ⟨iP, hiP, hp0, hp1, hp2⟩ := info_parts infoP
  have hKey : Keep (keyB K = digB K) := ⟨by rw [keyB, if_pos (by rw [ha.hlen]; omega)]⟩
  have hKbK := Lib.hid hKb
  have HGb := Lib.hid hgb
  have hKl := Keep.mk ha.hlen
  have ha1 := Keep.mk ha
  have hb1 := Keep.mk hb
  have hok1 := Keep.mk hok
  clear ha hb hok hKb hgb
  go_enter Tryd.func23, Tryd.ntmps23
  go_wp2_with fail
  have hb0 : Below w.heap.size w (w.alloc (.cells (bArr (List.replicate 32 0)) 24)) := (Below.refl _ w).alloc (Nat.le_refl _) _
  have hr0 : (w.alloc (.cells (bArr (List.replicate 32 0)) 24)).heap[w.heap.size]? = some (.cells (bArr (List.replicate 32 0)) 24 (0, 0)) := heap_alloc_new _ _
  have hs0 : (w.alloc (.cells (bArr (List.replicate 32 0)) 24)).heap.size = w.heap.size + 1 := World.size_alloc _ _
  change Calls _ _ _ ((w.alloc (.cells (bArr (List.replicate 32 0)) 24)).alloc (.cells #[.slice Ak nk ck] 22)) _
  rw [← hs0]
  generalize w.alloc (.cells (bArr (List.replicate 32 0)) 24) = wp at *
  have hkp := ha1.out.below hb0
  refine (of_new wp _ 1 [⟨Ak, nk, ck, K⟩] K rfl rfl (PcsOk.one hkp) (by simp [glue]) (by omega) (by rw [hKl.out]; omega) hKbK.out).mono ?_
  rintro e wq ⟨rfl, hbq⟩
  obtain ⟨E0, hE0⟩ : ∃ E0, digB K = E0 := ⟨_, rfl⟩
  have hE0l : E0.length = 32 := by rw [← hE0, digB_length]
  have HKb := Lib.hid (show ∀ z ∈ E0, 0 ≤ z ∧ z ≤ 255 by rw [← hE0]; exact digB_byte _)
  rw [hE0]
  have HE0 := Keep.mk hE0
  have HE0l := Keep.mk hE0l
  have hbq2 : Below w.heap.size w wq := hb0.trans (hbq.mono hb0.size)
  have HPsq := Keep.mk (hb1.out.below hbq2)
  have HOkq := Keep.mk (hok1.out.below hbq2)
  have HBq := Lib.hid hbq2
  have HRq := Keep.mk ((hbq.block _ (lt_of_block hr0)).trans hr0)
  have H32 : Hid ((Tryd.prog.info? 24).map (·.size) = some (bArr E0).size) := Lib.hid (by rw [bArr_size, hE0l]; exact infoA32)
  have HSz : Hid ((bArr (List.replicate 32 0)).size = (bArr E0).size) := Lib.hid (by rw [bArr_size, bArr_size, hE0l]; rfl)
  have hA : Keep ((wq.alloc (.cells (bArr (List.replicate 32 0)) 24)).heap[wq.heap.size]? = some (.cells (bArr (List.replicate 32 0)) 24 (0, 0))) := ⟨heap_alloc_new _ _⟩
  clear hE0 hE0l hb0 hr0 hs0 hkp hbq hbq2 ha1 hb1 hok1
  go_wp2_with (first
    | (refine wpList_store_row rfl 24 _ _ rfl wq.heap.size 24 (bArr (List.replicate 32 0)) (bArr E0) rfl rfl hA.out H32.out HSz.out (bArr_one _) ?_)
    | fail)
  have hBr : ((wq.alloc (.cells (bArr (List.replicate 32 0)) 24)).setRow wq.heap.size (bArr E0)).heap[wq.heap.size]? = some (.cells (bArr E0) 24 (0, 0)) := setRow_heap _ _ _ _ _ _ hA.out
  have hbr : Below wq.heap.size wq ((wq.alloc (.cells (bArr (List.replicate 32 0)) 24)).setRow wq.heap.size (bArr E0)) := below_setRow ((Below.refl _ wq).alloc (Nat.le_refl _) _) (Nat.le_refl _) _
  change Calls _ _ _ ((wq.alloc (.cells (bArr (List.replicate 32 0)) 24)).setRow wq.heap.size (bArr E0)) _
  generalize (wq.alloc (.cells (bArr (List.replicate 32 0)) 24)).setRow wq.heap.size (bArr E0) = wk at *
  have HK := Keep.mk (Arg.row hBr 32 HE0l.out (by decide))
  have HPs := Keep.mk (HPsq.out.below hbr)
  have HOk := Keep.mk (HOkq.out.below hbr)
  have HBk := Lib.hid (HBq.out.trans (hbr.mono HBq.out.size))
  have HRk := Keep.mk ((hbr.block _ (lt_of_block HRq.out)).trans HRq.out)
  clear hBr hbr hA HPsq HOkq HBq HRq H32 HSz
  refine (padded_any (some ⟨wq.heap.size, 0, none⟩) 32 32 E0 54 wk HK.out (by omega)).mono ?_
  rintro e w3 ⟨rfl, hr3, hb3⟩
  have hp3 := Arg.row (t := 77) (fr := (0, 0)) hr3 64 (xorB_length E0 54 (by rw [HK.out.hlen]; omega)) (by decide)
  have HP3 := Keep.mk hp3
  have HPs3 := Keep.mk (HPs.out.below hb3)
  have HOk3 := Keep.mk (HOk.out.below hb3)
  have HK3 := Keep.mk (HK.out.below hb3)
  have HB3 := Lib.hid (HBk.out.trans (hb3.mono HBk.out.size))
  have HR3 := Keep.mk ((hb3.block _ (lt_of_block HRk.out)).trans HRk.out)
  clear hr3 hb3 hp3 HBk HRk
  go_wp2_with (first
    | (refine wpList_append_rd rfl (.tmp 16) (.tmp 17) 29 rfl w3.heap.size 22 iP (.slice none 0 0) 1 24 Tryd.underlying29 hiP hp0 hp1 hp2 rfl (by decide) (.slice (some ⟨w3.heap.size, 0, none⟩) 1 1) 1 [.slice (some ⟨wk.heap.size, 0, none⟩) 64 64] rfl (World.ownsRow_lit w3 #[.slice (some ⟨wk.heap.size, 0, none⟩) 64 64] 1 (Nat.le_refl _) (by decide) rfl) B m d _ encP ps rfl HPs3.out.hnil HPs3.out.hlen encP_length ((HPs3.out.alloc _).rd) encPOne (by simp only [maxLen]; omega) (by omega) (by simp) ?_
       intro v4 w4 hown4 hgr4 hat4
       have hb4 : Below w3.heap.size w3 w4 := ((Below.refl _ w3).alloc (Nat.le_refl _) _).grown hgr4 (by simp) (fun j e => (by simp [Value.ownBlock] at e; omega))
       have hown4' : w4.ownsRow w3.heap.size 22 1 v4 (1 + m) ((⟨some ⟨wk.heap.size, 0, none⟩, 64, 64, xorB E0 54⟩ :: ps : List Pc).flatMap encP) := hown4
       obtain ⟨A4, c4, rfl, ha4⟩ := Arg.of_own (by decide) encP_length hown4'
       have HA4 := Keep.mk ha4
       have HB4 := Keep.mk hb4
       clear hgr4 hat4 hown4 ha4 hown4' hb4)
    | fail)
  have hok4 : PcsOk w4 (⟨some ⟨wk.heap.size, 0, none⟩, 64, 64, xorB E0 54⟩ :: ps) := fun p hp => by
    rcases List.mem_cons.1 hp with rfl | hp
    · exact HP3.out.below HB4.out
    · exact (HOk3.out p hp).below HB4.out
  have hgl : glue (⟨some ⟨wk.heap.size, 0, none⟩, 64, 64, xorB E0 54⟩ :: ps) = xorB E0 54 ++ glue ps := by simp [glue]
  have hgn : (xorB E0 54 ++ glue ps).length ≤ 60000 := by rw [List.length_append, xorB_length E0 54 (by rw [HK.out.hlen]; omega)]; omega
  have hgb : ∀ z ∈ xorB E0 54 ++ glue ps, 0 ≤ z ∧ z ≤ 255 := fun z hz => (List.mem_append.1 hz).elim (xorB_byte z) (HGb.out z)
  refine (of_any A4 (1 + m) c4 _ w4 HA4.out hok4 (by omega) (by rw [hgl]; omega) (by rw [hgl]; exact hgb)).mono ?_
  rintro e w5 ⟨rfl, hb5⟩
  rw [hgl]
  obtain ⟨D, hD⟩ : ∃ D, digB (xorB E0 54 ++ glue ps) = D := ⟨_, rfl⟩
  have hDb : ∀ z ∈ D, 0 ≤ z ∧ z ≤ 255 := by rw [← hD]; exact digB_byte _
  have hDl : D.length = 32 := by rw [← hD, digB_length]
  rw [hD]
  have HD := Keep.mk hD
  have HDb := Lib.hid hDb
  have HDl := Keep.mk hDl
  have HB35 := Keep.mk (HB4.out.trans (hb5.mono HB4.out.size))
  have HB5 := Lib.hid (HB3.out.trans (HB35.out.mono HB3.out.size))
  have HK5 := Keep.mk (HK3.out.below HB35.out)
  have HR5 := Keep.mk ((HB35.out.block _ (lt_of_block HR3.out)).trans HR3.out)
  have H32 : Hid ((Tryd.prog.info? 24).map (·.size) = some (bArr D).size) := Lib.hid (by rw [bArr_size, hDl]; exact infoA32)
  have HSz : Hid ((bArr (List.replicate 32 0)).size = (bArr D).size) := Lib.hid (by rw [bArr_size, bArr_size, hDl]; rfl)
  have hA : Keep ((w5.alloc (.cells (bArr (List.replicate 32 0)) 24)).heap[w5.heap.size]? = some (.cells (bArr (List.replicate 32 0)) 24 (0, 0))) := ⟨heap_alloc_new _ _⟩
  clear hok4 hgl hgn hgb hb5 hD hDb hDl HP3 HPs3 HOk3 HK3 HB3 HR3 HA4 HB4 HB35
  go_wp2_with (first
    | (refine wpList_store_row rfl 24 _ _ rfl w5.heap.size 24 (bArr (List.replicate 32 0)) (bArr D) rfl rfl hA.out H32.out HSz.out (bArr_one _) ?_)
    | fail)
  have hB : ((w5.alloc (.cells (bArr (List.replicate 32 0)) 24)).setRow w5.heap.size (bArr D)).heap[w5.heap.size]? = some (.cells (bArr D) 24 (0, 0)) := setRow_heap _ _ _ _ _ _ hA.out
  have hb6 : Below w5.heap.size w5 ((w5.alloc (.cells (bArr (List.replicate 32 0)) 24)).setRow w5.heap.size (bArr D)) := below_setRow ((Below.refl _ w5).alloc (Nat.le_refl _) _) (Nat.le_refl _) _
  change Code.wp _ _ _ _ ((w5.alloc (.cells (bArr (List.replicate 32 0)) 24)).setRow w5.heap.size (bArr D))
  generalize (w5.alloc (.cells (bArr (List.replicate 32 0)) 24)).setRow w5.heap.size (bArr D) = w6 at *
  have HRow := Keep.mk (Arg.row hB 32 HDl.out (by decide))
  have HB6 := Lib.hid (HB5.out.trans (hb6.mono HB5.out.size))
  have HK6 := Keep.mk (HK5.out.below hb6)
  have HR6 := Keep.mk ((hb6.block _ (lt_of_block HR5.out)).trans HR5.out)
  clear hB hb6 hA HK5 HB5 HR5 H32 HSz
  go_region_held3 (fun W => Below w.heap.size w W) (first | with_reducible assumption | with_reducible exact HB6.out.drew | with_reducible exact HB7.alloc HB7.size _)
    (first
      | (go_at_call 37; refine (padded_any (some ⟨wq.heap.size, 0, none⟩) 32 32 E0 92 _ HK6.out.drew (by omega)).mono ?_; rintro e w7 ⟨rfl, hr7, hb7⟩; have HP7 := Keep.mk (Arg.row (t := 77) (fr := (0, 0)) hr7 64 (xorB_length E0 92 (by rw [HK6.out.hlen]; omega)) (by decide)); have HRow7 := Keep.mk (HRow.out.drew.below hb7); have HB7 := HB6.out.drew.trans (hb7.mono HB6.out.drew.size); have HR7 := Keep.mk ((hb7.block _ (lt_of_block HR6.out)).trans HR6.out); clear hr7 hb7)
      | (go_at_call 14; refine (of_new w7 _ 2 [⟨some ⟨w6.heap.size, 0, none⟩, 64, 64, xorB E0 92⟩, ⟨some ⟨w5.heap.size, 0, none⟩, 32, 32, D⟩] (xorB E0 92 ++ D) rfl rfl ?_ (by simp [glue]) (by omega) ?_ ?_).mono ?_
         · intro p hp
           simp only [List.mem_cons, List.not_mem_nil, or_false] at hp
           rcases hp with rfl | rfl
           · exact HP7.out
           · exact HRow7.out
         · rw [List.length_append, HDl.out, xorB_length E0 92 (by rw [HK6.out.hlen]; omega)]; omega
         · exact fun z hz => (List.mem_append.1 hz).elim (xorB_byte z) (HDb.out z)
         rintro e w8 ⟨rfl, hb8⟩
         obtain ⟨E, hE⟩ : ∃ E, digB (xorB E0 92 ++ D) = E := ⟨_, rfl⟩
         rw [hE]
         have HE := Keep.mk hE
         have hEl : E.length = 32 := by rw [← hE, digB_length]
         rw [show bArr E = (E.map (Value.int .u8)).toArray from rfl]
         have HB8 := HB7.trans (hb8.mono HB7.size)
         have HR8 := (hb8.block _ (lt_of_block HR7.out)).trans HR7.out
         have hT : w8.there w.heap.size 0 (E.map (Value.int .u8)).toArray.size := by
           rw [show (E.map (Value.int .u8)).toArray.size = 32 from by simp [hEl]]
           exact there_row HR8
         have HBs := below_setCells (Nat.le_refl w.heap.size) (E.map (Value.int .u8)) 0 w8 HB8
         have hOne : ∀ v ∈ E.map (Value.int .u8), v.oneCell' = true := fun v hv => by obtain ⟨z, _, rfl⟩ := List.mem_map.1 hv; rfl
         have hI : (Tryd.prog.info? 24).map (·.size) = some (E.map (Value.int .u8)).toArray.size := by rw [show (E.map (Value.int .u8)).toArray.size = 32 from by simp [hEl]]; exact infoA32
         have HT := Keep.mk hT
         have HI := Keep.mk hI
         clear hE hEl hb8 HR8))
  go_wp2_with fail
  refine bodyPost_ret (v := .agg (E.map (Value.int .u8)).toArray) (results_cell_mid Tryd.results23 _ _ w.heap.size (E.map (Value.int .u8)) (.array 32 5) rfl (World.rangeAt_setCells_same w8 w.heap.size 0 _ (by have := HT.out; rw [show (E.map (Value.int .u8)).toArray.size = (E.map (Value.int .u8)).length from by simp] at this; exact this)) Tryd.underlying24 rfl (by have := HI.out; rw [show (E.map (Value.int .u8)).toArray.size = (E.map (Value.int .u8)).length from by simp] at this; exact this)) rfl ⟨?_, HBs⟩
  rw [hmB, hKey.out, HE0.out, HD.out, HE.out]
  rfl
theorem hmOf_any (Ak : Option Addr) (nk ck : Nat) (K : List Int) (B : Option Addr) (m d : Nat) (ps : List Pc) (w : World) (ha : Arg w 1 encB Ak nk ck K) (hKb : ∀ z ∈ K, 0 ≤ z ∧ z ≤ 255) (hn2 : nk ≤ 50000)
    (hb : Arg w 1 encP B m d ps) (hok : PcsOk w ps) (hm : m ≤ 100000) (hg : (glue ps).length ≤ 50000) (hgb : ∀ z ∈ glue ps, 0 ≤ z ∧ z ≤ 255) :
    Calls Tryd.prog 23 #[.slice Ak nk ck, .slice B m d] w fun e w' => e = .returned (.agg (bArr (hmB K (glue ps)))) ∧ Below w.heap.size w w' := by
  by_cases h : nk ≤ 64
  · exact hmOf_short Ak nk ck K B m d ps w ha hKb h hb hok hm hg hgb
  · exact hmOf_long Ak nk ck K B m d ps w ha hKb (by omega) hn2 hb hok hm hg hgb
end Go.Proofs.YtkcmemhoabadaaaDoor
