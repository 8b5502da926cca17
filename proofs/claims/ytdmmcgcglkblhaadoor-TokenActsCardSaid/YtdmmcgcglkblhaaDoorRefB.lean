/-
  The reference of layer 3: its words.
-/
import Derived.Test.YtdmmcgcglkblhaaDoorRefA
namespace Go.Proofs.YtdmmcgcglkblhaaDoor
open Go.RowKit

def wl0 : List W32 := [1116352408, 1899447441, 3049323471, 3921009573, 961987163, 1508970993, 2453635748, 2870763221]
def wl1 : List W32 := [3624381080, 310598401, 607225278, 1426881987, 1925078388, 2162078206, 2614888103, 3248222580]
def wl2 : List W32 := [3835390401, 4022224774, 264347078, 604807628, 770255983, 1249150122, 1555081692, 1996064986]
def wl3 : List W32 := [2554220882, 2821834349, 2952996808, 3210313671, 3336571891, 3584528711, 113926993, 338241895]
def wl4 : List W32 := [666307205, 773529912, 1294757372, 1396182291, 1695183700, 1986661051, 2177026350, 2456956037]
def wl5 : List W32 := [2730485921, 2820302411, 3259730800, 3345764771, 3516065817, 3600352804, 4094571909, 275423344]
def wl6 : List W32 := [430227734, 506948616, 659060556, 883997877, 958139571, 1322822218, 1537002063, 1747873779]
def wl7 : List W32 := [1955562222, 2024104815, 2227730452, 2361852424, 2428436474, 2756734187, 3204031479, 3329325298]
theorem wl_all : wl0 ++ wl1 ++ wl2 ++ wl3 ++ wl4 ++ wl5 ++ wl6 ++ wl7 = wordsR := rfl
set_option maxRecDepth 100000 in
set_option maxHeartbeats 1000000 in
theorem words_any (w : World) : Calls Tryd.prog 69 #[] w fun e w' => ∃ A c, e = .returned (.slice A 64 c) ∧ Arg w' 1 encW A 64 c wordsR ∧ Below w.heap.size w w' := by
  have hown0 : w.ownsRow w.heap.size 30 1 (.slice none 0 0) 0 (([] : List W32).flatMap encW) := World.ownsRow_nil _ _ _ _
  go_enter Tryd.func69, Tryd.ntmps69
  go_wp2_with (first
    | (refine wpList_append_words rfl (.tmp 2) (.tmp 3) 112 rfl Tryd.underlying112 w.heap.size _ 0 [] rfl (hown0.alloc _) w.heap.size 8 wl0 rfl 30 (heap_alloc_new _ _) rfl (by omega) (by omega) ?_ ?_
       · simp
       intro v1 w1 hown1 hgr1 _
       have hb1 : Below w.heap.size w w1 := ((Below.refl _ w).alloc (Nat.le_refl _) _).grown hgr1 (by simp) (fun j e => (hown0.lt j e).1)
       clear hgr1)
    | (refine wpList_append_words rfl (.tmp 5) (.tmp 6) 112 rfl Tryd.underlying112 w.heap.size _ 8 (wl0) rfl (hown1.alloc _) w1.heap.size 8 wl1 rfl 30 (heap_alloc_new _ _) rfl (by omega) (by omega) ?_ ?_
       · have := hb1.size; simp; omega
       intro v2 w2 hown2 hgr2 _
       have hb2 : Below w.heap.size w w2 := (hb1.alloc hb1.size _).grown hgr2 (by simp; have := hb1.size; omega) (fun j e => (hown1.lt j e).1)
       clear hgr2)
    | (refine wpList_append_words rfl (.tmp 8) (.tmp 9) 112 rfl Tryd.underlying112 w.heap.size _ 16 (wl0 ++ wl1) rfl (hown2.alloc _) w2.heap.size 8 wl2 rfl 30 (heap_alloc_new _ _) rfl (by omega) (by omega) ?_ ?_
       · have := hb2.size; simp; omega
       intro v3 w3 hown3 hgr3 _
       have hb3 : Below w.heap.size w w3 := (hb2.alloc hb2.size _).grown hgr3 (by simp; have := hb2.size; omega) (fun j e => (hown2.lt j e).1)
       clear hgr3)
    | (refine wpList_append_words rfl (.tmp 11) (.tmp 12) 112 rfl Tryd.underlying112 w.heap.size _ 24 (wl0 ++ wl1 ++ wl2) rfl (hown3.alloc _) w3.heap.size 8 wl3 rfl 30 (heap_alloc_new _ _) rfl (by omega) (by omega) ?_ ?_
       · have := hb3.size; simp; omega
       intro v4 w4 hown4 hgr4 _
       have hb4 : Below w.heap.size w w4 := (hb3.alloc hb3.size _).grown hgr4 (by simp; have := hb3.size; omega) (fun j e => (hown3.lt j e).1)
       clear hgr4)
    | (refine wpList_append_words rfl (.tmp 14) (.tmp 15) 112 rfl Tryd.underlying112 w.heap.size _ 32 (wl0 ++ wl1 ++ wl2 ++ wl3) rfl (hown4.alloc _) w4.heap.size 8 wl4 rfl 30 (heap_alloc_new _ _) rfl (by omega) (by omega) ?_ ?_
       · have := hb4.size; simp; omega
       intro v5 w5 hown5 hgr5 _
       have hb5 : Below w.heap.size w w5 := (hb4.alloc hb4.size _).grown hgr5 (by simp; have := hb4.size; omega) (fun j e => (hown4.lt j e).1)
       clear hgr5)
    | (refine wpList_append_words rfl (.tmp 17) (.tmp 18) 112 rfl Tryd.underlying112 w.heap.size _ 40 (wl0 ++ wl1 ++ wl2 ++ wl3 ++ wl4) rfl (hown5.alloc _) w5.heap.size 8 wl5 rfl 30 (heap_alloc_new _ _) rfl (by omega) (by omega) ?_ ?_
       · have := hb5.size; simp; omega
       intro v6 w6 hown6 hgr6 _
       have hb6 : Below w.heap.size w w6 := (hb5.alloc hb5.size _).grown hgr6 (by simp; have := hb5.size; omega) (fun j e => (hown5.lt j e).1)
       clear hgr6)
    | (refine wpList_append_words rfl (.tmp 20) (.tmp 21) 112 rfl Tryd.underlying112 w.heap.size _ 48 (wl0 ++ wl1 ++ wl2 ++ wl3 ++ wl4 ++ wl5) rfl (hown6.alloc _) w6.heap.size 8 wl6 rfl 30 (heap_alloc_new _ _) rfl (by omega) (by omega) ?_ ?_
       · have := hb6.size; simp; omega
       intro v7 w7 hown7 hgr7 _
       have hb7 : Below w.heap.size w w7 := (hb6.alloc hb6.size _).grown hgr7 (by simp; have := hb6.size; omega) (fun j e => (hown6.lt j e).1)
       clear hgr7)
    | (refine wpList_append_words rfl (.tmp 23) (.tmp 24) 112 rfl Tryd.underlying112 w.heap.size _ 56 (wl0 ++ wl1 ++ wl2 ++ wl3 ++ wl4 ++ wl5 ++ wl6) rfl (hown7.alloc _) w7.heap.size 8 wl7 rfl 30 (heap_alloc_new _ _) rfl (by omega) (by omega) ?_ ?_
       · have := hb7.size; simp; omega
       intro v8 w8 hown8 hgr8 _
       have hb8 : Below w.heap.size w w8 := (hb7.alloc hb7.size _).grown hgr8 (by simp; have := hb7.size; omega) (fun j e => (hown7.lt j e).1)
       clear hgr8)
    | fail)
  go_ret
  rw [wl_all] at hown8
  obtain ⟨A, c, rfl, ha⟩ := Arg.of_own (by decide) encW_length hown8
  exact ⟨A, c, rfl, ha, hb8⟩
end Go.Proofs.YtdmmcgcglkblhaaDoor
