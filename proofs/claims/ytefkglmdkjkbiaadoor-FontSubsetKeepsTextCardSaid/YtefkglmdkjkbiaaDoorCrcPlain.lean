/- The checksum in plain words. -/
import Derived.Lib.Hide
namespace Go.Proofs.YtefkglmdkjkbiaaDoor
namespace Crc
def T : List Nat := [0, 498536548, 997073096, 651767980, 1994146192, 1802195444, 1303535960, 1342533948, 3988292384, 4027552580, 3604390888, 3412177804, 2607071920, 2262029012, 2685067896, 3183342108]
def N (r : BitVec 32) : BitVec 32 := (r >>> 4) ^^^ BitVec.ofNat 32 (T.getD (r.toNat % 16) 0)
def byteStep (r : BitVec 32) (c : UInt8) : BitVec 32 := N (N (r ^^^ BitVec.ofNat 32 c.toNat))
def reg (l : List UInt8) (r : BitVec 32) : BitVec 32 := l.foldl byteStep r
def sum (l : List UInt8) : BitVec 32 := ~~~ (reg l (~~~ 0#32))
theorem reg_append (a b : List UInt8) (r : BitVec 32) : reg (a ++ b) r = reg b (reg a r) := by simp [reg]
end Crc
end Go.Proofs.YtefkglmdkjkbiaaDoor
