/- Layer 21: keys, plain: names, texts, chords, matches. (Printed by gen_plain.py.) -/
import Derived.Test.YtcfgpmmclijonaaGreatDoorRuDec
namespace Go.Proofs.YtcfgpmmclijonaaGreatDoor
set_option linter.unusedVariables false
set_option linter.unusedSimpArgs false
set_option maxRecDepth 100000
open Go.Lib

instance (l : By) : Decidable (Brk l) := inferInstanceAs (Decidable (decodeL l = (65533, 1)))
structure Ky where
  nm : By
  md : Nat
deriving DecidableEq
def wordsL : List By := [[101, 110, 116, 101, 114], [116, 97, 98], [101, 115, 99, 97, 112, 101], [115, 112, 97, 99, 101], [112, 108, 117, 115], [98, 97, 99, 107, 115, 112, 97, 99, 101], [100, 101, 108, 101, 116, 101], [105, 110, 115, 101, 114, 116], [117, 112], [100, 111, 119, 110], [108, 101, 102, 116], [114, 105, 103, 104, 116], [104, 111, 109, 101], [101, 110, 100], [112, 97, 103, 101, 117, 112], [112, 97, 103, 101, 100, 111, 119, 110], [102, 49], [102, 50], [102, 51], [102, 52], [102, 53], [102, 54], [102, 55], [102, 56], [102, 57], [102, 49, 48], [102, 49, 49], [102, 49, 50]]
def numsL : List (By × By) := [([49], [104, 111, 109, 101]), ([50], [105, 110, 115, 101, 114, 116]), ([51], [100, 101, 108, 101, 116, 101]), ([52], [101, 110, 100]), ([53], [112, 97, 103, 101, 117, 112]), ([54], [112, 97, 103, 101, 100, 111, 119, 110]), ([49, 49], [102, 49]), ([49, 50], [102, 50]), ([49, 51], [102, 51]), ([49, 52], [102, 52]), ([49, 53], [102, 53]), ([49, 55], [102, 54]), ([49, 56], [102, 55]), ([49, 57], [102, 56]), ([50, 48], [102, 57]), ([50, 49], [102, 49, 48]), ([50, 51], [102, 49, 49]), ([50, 52], [102, 49, 50])]
def arrsL : List (Nat × By) := [(65, [117, 112]), (66, [100, 111, 119, 110]), (67, [114, 105, 103, 104, 116]), (68, [108, 101, 102, 116]), (72, [104, 111, 109, 101]), (70, [101, 110, 100])]
def ctrlL : By := [99, 116, 114, 108, 43]
def altL : By := [97, 108, 116, 43]
def shiftL : By := [115, 104, 105, 102, 116, 43]
def runeOk (l : By) : Bool := decide (l ≠ [] ∧ wd l = l.length ∧ ¬ Brk l ∧ rn l ≠ 32 ∧ rn l ≠ 43 ∧ wid (rn l : Int) ≠ 0)
def nmB (l : By) : Bool := decide (l ∈ wordsL) || runeOk l
def mayB (k : Ky) : Bool := decide (k.md ≤ 7) && nmB k.nm
def ctrlB (m : Nat) : Bool := m.testBit 1
def altB (m : Nat) : Bool := m.testBit 2
def shiftB (m : Nat) : Bool := m.testBit 0
def textL (k : Ky) : By := (if ctrlB k.md then ctrlL else []) ++ (if altB k.md then altL else []) ++ (if shiftB k.md then shiftL else []) ++ k.nm
/-- The modifier with which a text begins, and how long its word is. -/
def modL (l : By) : Nat × Nat := if ctrlL.isPrefixOf l then (2, 5) else if altL.isPrefixOf l then (4, 4) else if shiftL.isPrefixOf l then (1, 6) else (0, 0)
def noKy : Ky := ⟨[], 0⟩
/-- A key's text, read: the key, the place of what is wrong, the error. -/
def parseG : Nat → Nat → Nat → By → Ky × Nat × Nat
  | 0, _, at_, _ => (noKy, at_, 210)
  | f + 1, md, at_, l =>
    if (modL l).1 = 0 then (if nmB l then (⟨l, md⟩, 0, 0) else (noKy, at_, 210))
    else if md &&& (modL l).1 ≠ 0 then (noKy, at_, 210) else parseG f (md ||| (modL l).1) (at_ + (modL l).2) (l.drop (modL l).2)
def parseL (l : By) : Ky × Nat × Nat := parseG (l.length + 1) 0 0 l
def ParseL (l : By) : Ky × Nat × Nat := if 65536 < l.length then (noKy, 0, 3) else parseL l
/-- A text's pieces at the blanks. -/
def cutB : By → List By
  | [] => [[]]
  | b :: t => if b = 32 then [] :: cutB t else match cutB t with | [] => [[b]] | p :: ps => (b :: p) :: ps
def chordG : List Ky → Nat → List By → List Ky × Nat × Nat
  | acc, _, [] => (acc, 0, 0)
  | acc, at_, p :: ps =>
    if acc.length = 8 then ([], 0, 4)
    else if (parseL p).2.2 ≠ 0 then ([], at_ + (parseL p).2.1, (parseL p).2.2)
    else chordG (acc ++ [(parseL p).1]) (at_ + p.length + 1) ps
def chordL (l : By) : List Ky × Nat × Nat := if 65536 < l.length then ([], 0, 3) else chordG [] 0 (cutB l)
/-- How many keys two rows have in common. -/
def comL : List Ky → List Ky → Nat
  | a :: s, b :: t => if a = b then comL s t + 1 else 0
  | _, _ => 0
def firstBad : List By → Nat
  | [] => 0
  | l :: ls => if (chordL l).2.2 ≠ 0 then (chordL l).2.2 else firstBad ls
/-- The number of the first chord that is the keys, from a number on. -/
def whichL (ks : List Ky) : Nat → List By → Int
  | _, [] => -1
  | i, l :: ls => if (chordL l).1 = ks then (i : Int) else whichL ks (i + 1) ls
def moreB (ks : List Ky) (ls : List By) : Bool := ls.any fun l => decide (comL (chordL l).1 ks = ks.length ∧ ks.length < (chordL l).1.length)
def matchL (ls : List By) (ks : List Ky) : Int × Bool × Nat :=
  if 256 < ls.length then (0, false, 4)
  else if firstBad ls ≠ 0 then (0, false, firstBad ls)
  else if 8 < ks.length then (0, false, 4)
  else if ks.all mayB then (whichL ks 0 ls, moreB ks ls, 0) else (0, false, 210)

/-! ### what terminals send -/
def singleL (b : Nat) : Option Ky :=
  if b = 13 then some ⟨[101, 110, 116, 101, 114], 0⟩ else if b = 9 then some ⟨[116, 97, 98], 0⟩ else if b = 127 then some ⟨[98, 97, 99, 107, 115, 112, 97, 99, 101], 0⟩ else if b = 32 then some ⟨[115, 112, 97, 99, 101], 0⟩
  else if b = 43 then some ⟨[112, 108, 117, 115], 0⟩ else if b = 0 then some ⟨[115, 112, 97, 99, 101], 2⟩ else if b < 27 then some ⟨[(96 + b).toUInt8], 2⟩ else if 27 < b ∧ b < 32 then some ⟨[(64 + b).toUInt8], 2⟩ else none
/-- utf8.FullRuneInString. -/
def fullB (l : By) : Bool :=
  if l.length = 0 then false
  else if firstT (l.getD 0 0).toNat % 8 ≤ l.length then true
  else if 1 < l.length ∧ ((l.getD 1 0).toNat < accLo (firstT (l.getD 0 0).toNat / 16) ∨ accHi (firstT (l.getD 0 0).toNat / 16) < (l.getD 1 0).toNat) then true
  else decide (2 < l.length ∧ ((l.getD 2 0).toNat < 128 ∨ 191 < (l.getD 2 0).toNat))
def plainL (l : By) : Ky × Nat :=
  match singleL (l.getD 0 0).toNat with
  | some k => (k, 1)
  | none => if Brk l then (if fullB l then (noKy, 1) else (noKy, 0)) else if wid (rn l : Int) = 0 then (noKy, wd l) else (⟨l.take (wd l), 0⟩, wd l)
def arrL (b : Nat) : By := ((arrsL.find? fun p => p.1 == b).map (·.2)).getD []
def numL (n : By) : By := ((numsL.find? fun p => p.1 == n).map (·.2)).getD []
def cutS : By → By × By × Bool
  | [] => ([], [], false)
  | b :: t => if b = 59 then ([], t, true) else (b :: (cutS t).1, (cutS t).2.1, (cutS t).2.2)
def modsL (m : By) : Option Nat := match m with
  | [b] => if 50 ≤ b.toNat ∧ b.toNat ≤ 56 then some (((b.toNat - 49) &&& 1) ||| (((b.toNat - 49) &&& 2) <<< 1) ||| (((b.toNat - 49) &&& 4) >>> 1)) else none
  | _ => none
def endL (n : By) (two : Bool) (b : Nat) : By := if b = 126 then numL n else if n = [49] ∨ (n = [] ∧ two = false) then arrL b else []
def listedL (s : By) (b : Nat) : Ky :=
  let (n, m, two) := cutS s
  if two then (match modsL m with | none => noKy | some k => if endL n two b = [] then noKy else ⟨endL n two b, k⟩)
  else if endL n two b = [] then noKy else ⟨endL n two b, 0⟩
def numRun (l : By) : Nat := (l.takeWhile fun b => decide (32 ≤ b.toNat ∧ b.toNat ≤ 63)).length
def bracketL (l : By) : Ky × Nat :=
  let i := 2 + numRun (l.drop 2)
  if i = l.length then (noKy, 0) else if 64 ≤ (l.getD i 0).toNat ∧ (l.getD i 0).toNat ≤ 126 then (listedL ((l.take i).drop 2) (l.getD i 0).toNat, i + 1) else (noKy, i)
def letterL (l : By) : Ky × Nat :=
  if l.length = 2 then (noKy, 0)
  else let b := (l.getD 2 0).toNat
    if 80 ≤ b ∧ b ≤ 83 then (⟨[102, (b - 31).toUInt8], 0⟩, 3) else if arrL b = [] then (noKy, 2) else (⟨arrL b, 0⟩, 3)
def thingL (l : By) : Ky × Nat :=
  if (l.getD 0 0).toNat ≠ 27 then plainL l
  else if l.length = 1 then (noKy, 0)
  else if (l.getD 1 0).toNat = 91 then bracketL l
  else if (l.getD 1 0).toNat = 79 then letterL l
  else if (l.getD 1 0).toNat = 27 then (⟨[101, 115, 99, 97, 112, 101], 0⟩, 1)
  else let p := plainL (l.drop 1)
    if p.2 = 0 then (noKy, 0) else (if p.1.nm = [] then p.1 else ⟨p.1.nm, p.1.md ||| 4⟩, p.2 + 1)
def bytesG : Nat → By → List Ky × Nat
  | 0, l => ([], l.length)
  | f + 1, l => if l = [] then ([], 0) else if (thingL l).2 = 0 then ([], l.length) else
    let r := bytesG f (l.drop (thingL l).2)
    (if (thingL l).1.nm = [] then r.1 else (thingL l).1 :: r.1, r.2)
def bytesL (l : By) : List Ky × Nat := bytesG l.length l
end Go.Proofs.YtcfgpmmclijonaaGreatDoor
