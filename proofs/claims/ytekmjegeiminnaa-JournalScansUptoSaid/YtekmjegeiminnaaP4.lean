/- Plain laws on containers: what is written is read; what is read was so written; a turned bit, one byte more and nothing at all are none. -/
import Derived.Test.YtekmjegeiminnaaP3
import Derived.Test.YtekmjegeiminnaaC1
namespace Go.Proofs.Ytekmjegeiminnaa
open Go.RowKit

/-- Chunks by their directory, out of their data; and the data that is left. -/
def parseL (data dir : List UInt8) : Option (List Chk × List UInt8) :=
  if _h0 : dir.length = 0 then some ([], data)
  else if _h1 : dir.length < 12 then none
  else if data.length < ofLe ((dir.drop 4).take 4) ∨ crc32 (data.take (ofLe ((dir.drop 4).take 4))) ≠ ofLe ((dir.drop 8).take 4) then none
  else (parseL (data.drop (ofLe ((dir.drop 4).take 4))) (dir.drop 12)).map fun p => ((dir.take 4, data.take (ofLe ((dir.drop 4).take 4))) :: p.1, p.2)
termination_by dir.length
decreasing_by simp; omega
theorem parseL_nil (data : List UInt8) {dir : List UInt8} (h : dir.length = 0) : parseL data dir = some ([], data) := by rw [parseL, dif_pos h]
theorem parseL_short (data : List UInt8) {dir : List UInt8} (h : dir.length ≠ 0) (h1 : dir.length < 12) : parseL data dir = none := by rw [parseL, dif_neg h, dif_pos h1]
theorem parseL_bad {data dir : List UInt8} (h1 : 12 ≤ dir.length) (h : data.length < ofLe ((dir.drop 4).take 4) ∨ crc32 (data.take (ofLe ((dir.drop 4).take 4))) ≠ ofLe ((dir.drop 8).take 4)) : parseL data dir = none := by
  rw [parseL, dif_neg (by omega), dif_neg (by omega), if_pos h]
theorem parseL_step {data dir : List UInt8} (h1 : 12 ≤ dir.length) (h : ¬ (data.length < ofLe ((dir.drop 4).take 4) ∨ crc32 (data.take (ofLe ((dir.drop 4).take 4))) ≠ ofLe ((dir.drop 8).take 4))) :
    parseL data dir = (parseL (data.drop (ofLe ((dir.drop 4).take 4))) (dir.drop 12)).map fun p => ((dir.take 4, data.take (ofLe ((dir.drop 4).take 4))) :: p.1, p.2) := by
  conv => lhs; rw [parseL, dif_neg (by omega), dif_neg (by omega), if_neg h]
/-- The frame at a container's end, and its data. -/
def bodyL (b : List UInt8) : List UInt8 := (b.drop 8).take (b.length - 12)
def tailN (b : List UInt8) : Nat := ofLe ((b.drop (b.length - 4)).take 4)
def frameOf (b : List UInt8) : List UInt8 := (bodyL b).drop ((bodyL b).length - tailN b)
def dataOf (b : List UInt8) : List UInt8 := (bodyL b).take ((bodyL b).length - tailN b)
/-- A container's chunks. -/
def readL (b : List UInt8) : Option (List Chk) :=
  if b.take 8 ≠ magicL ∨ b.length < 20 then none
  else if (bodyL b).length < tailN b then none
  else if unfE (frameOf b) ≠ 0 ∨ unfN (frameOf b) ≠ tailN b then none
  else (parseL (dataOf b) (unfC (frameOf b))).bind fun p => if p.2 = [] ∧ mayE p.1 = 0 then some p.1 else none
/-- Chunks by their directory, as the reference takes them: by their sizes alone. -/
def parseR (b : List UInt8) (E at' : Nat) (dir : List UInt8) : Option (List Chk) :=
  if _h0 : dir.length = 0 then some []
  else if E - at' < ofLe ((dir.drop 4).take 4) then none
  else (parseR b E (at' + ofLe ((dir.drop 4).take 4)) (dir.drop 12)).map fun p => (dir.take 4, (b.drop at').take (ofLe ((dir.drop 4).take 4))) :: p
termination_by dir.length
decreasing_by simp; omega
theorem parseR_nil (b : List UInt8) (E at' : Nat) {dir : List UInt8} (h : dir.length = 0) : parseR b E at' dir = some [] := by rw [parseR, dif_pos h]
theorem parseR_bad {b : List UInt8} {E at' : Nat} {dir : List UInt8} (h : dir.length ≠ 0) (h1 : E - at' < ofLe ((dir.drop 4).take 4)) : parseR b E at' dir = none := by rw [parseR, dif_neg h, if_pos h1]
theorem parseR_step {b : List UInt8} {E at' : Nat} {dir : List UInt8} (h : dir.length ≠ 0) (h1 : ¬ E - at' < ofLe ((dir.drop 4).take 4)) :
    parseR b E at' dir = (parseR b E (at' + ofLe ((dir.drop 4).take 4)) (dir.drop 12)).map fun p => (dir.take 4, (b.drop at').take (ofLe ((dir.drop 4).take 4))) :: p := by
  conv => lhs; rw [parseR, dif_neg h, if_neg h1]
/-- A container's chunks, as the reference takes them. -/
def refReadL (b : List UInt8) : Option (List Chk) :=
  if b.take 8 ≠ magicL ∨ b.length < 20 then none
  else if (bodyL b).length < tailN b then none
  else if unfE (frameOf b) ≠ 0 ∨ unfN (frameOf b) ≠ tailN b ∨ (unfC (frameOf b)).length % 12 ≠ 0 then none
  else (parseR b (b.length - 4 - tailN b) 8 (unfC (frameOf b))).bind fun l => if mayE l = 0 ∧ writeL l = b then some l else none
end Go.Proofs.Ytekmjegeiminnaa
