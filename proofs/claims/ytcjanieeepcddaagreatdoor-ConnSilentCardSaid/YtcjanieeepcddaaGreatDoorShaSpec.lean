/-
  SHA-256 over words of 32 bits: the plain functions. No program in sight.
-/
namespace Go.Proofs.YtcjanieeepcddaaGreatDoor
abbrev W32 := BitVec 32
def rr (x : W32) (k : Nat) : W32 := (x <<< (32 - k)) ||| (x >>> k)
def trn (x : W32) (a b c : Nat) : W32 := rr x a ^^^ rr x b ^^^ rr x c
/-- One round's first sum, its second one, and the words behind it, as the program reckons them. -/
def rUp (s : Nat → W32) (x : W32) : W32 := s 7 + trn (s 4) 6 11 25 + (s 6 ^^^ s 4 &&& (s 5 ^^^ s 6)) + x
def rTop (s : Nat → W32) (x : W32) : W32 := rUp s x + trn (s 0) 2 13 22 + (s 0 &&& s 1 ^^^ s 0 &&& s 2 ^^^ s 1 &&& s 2)
def rnd (s : Nat → W32) (x : W32) : Nat → W32
  | 0 => rTop s x
  | 1 => s 0
  | 2 => s 1
  | 3 => s 2
  | 4 => s 3 + rUp s x
  | 5 => s 4
  | 6 => s 5
  | _ => s 6
end Go.Proofs.YtcjanieeepcddaaGreatDoor
