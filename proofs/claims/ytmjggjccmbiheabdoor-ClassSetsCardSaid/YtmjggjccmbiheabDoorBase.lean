/- Texts as lists of bytes: the words that this seat's own proofs share. -/
import Derived.Test.YtmjggjccmbiheabDoorShelf
import Derived.WalkKit
import Derived.WalkSpells
import Derived.KernelRfl
import Derived.RowKit3
import Derived.WideLaws
namespace Go.Proofs.YtmjggjccmbiheabDoor
open Go.RowKit Go.Proofs

/-- A text out of its bytes. -/
def mk (l : List UInt8) : ByteArray := ⟨l.toArray⟩
theorem mk_data (l : List UInt8) : (mk l).data.toList = l := rfl
theorem mk_list (l : List UInt8) : (mk l).toList = l := ByteArray.toList_eq _
theorem mk_size (l : List UInt8) : (mk l).size = l.length := rfl
theorem mk_of (a : ByteArray) : mk a.data.toList = a := by cases a; rfl
theorem list_of (a : ByteArray) : a.toList = a.data.toList := ByteArray.toList_eq _
theorem mk_inj {a b : List UInt8} (h : mk a = mk b) : a = b := by rw [← mk_data a, h, mk_data]
theorem ex_mk (a : ByteArray) : ∃ l, a = mk l := ⟨_, (mk_of a).symm⟩
theorem mk_get (l : List UInt8) (i : Nat) (h : i < (mk l).size) : (mk l)[i]'h = l[i]'h := rfl
theorem mk_append (a b : List UInt8) : mk a ++ mk b = mk (a ++ b) := by
  apply ByteArray.ext; apply Array.ext'; simp [mk]
theorem mk_extract (l : List UInt8) (a b : Nat) : (mk l).extract a b = mk ((l.drop a).take (b - a)) := by
  rw [← mk_of ((mk l).extract a b), ← list_of, Lib.extract_toList, mk_data]
theorem mk_const (l : List UInt8) : (⟨l.toArray⟩ : ByteArray) = mk l := rfl

theorem byte_eq (c : UInt8) (n : Nat) (hn : n < 256) : ((c.toNat : Int) == n) = (c == UInt8.ofNat n) := by
  rw [Bool.eq_iff_iff]
  simp only [beq_iff_eq]
  constructor
  · intro h
    have : c.toNat = n := by omega
    subst this; simp
  · intro e; subst e; rw [UInt8.toNat_ofNat']; omega
theorem byte_ne (c : UInt8) (n : Nat) (hn : n < 256) : ((c.toNat : Int) != n) = (c != UInt8.ofNat n) := by
  simp only [bne, byte_eq c n hn]
theorem below_then {B : Nat} {w w1 w2 : World} (h : Below B w w1) (hB : B ≤ w1.heap.size) (k : Below w1.heap.size w1 w2) : Below B w w2 :=
  h.trans ⟨k.os, k.tape, k.output, k.size, fun i hi => k.block i (Nat.lt_of_lt_of_le hi hB)⟩
theorem ext_trans {a b c : World} (h : Below a.heap.size a b) (k : Below b.heap.size b c) : Below a.heap.size a c := below_then h h.size k
theorem below_drewN {B : Nat} {w W : World} (h : Below B w W) (n : Nat) : Below B w (W.drewN n) := ⟨h.os, h.tape, h.output, h.size, h.block⟩
theorem ret_str {a b : ByteArray} (h : a = b) : Ending.returned (.string a) = .returned (.string b) := by rw [h]
theorem ret_bool {a b : Bool} (h : a = b) : Ending.returned (.bool a) = .returned (.bool b) := by rw [h]
theorem ret_i64 {a b : Int} (h : a = b) : Ending.returned (.int .i64 a) = .returned (.int .i64 b) := by rw [h]
end Go.Proofs.YtmjggjccmbiheabDoor
