/- What stays known over calls that make memory alone. -/
import Derived.Test.YtbcbmmgfdobdiaaDoorTxt
namespace Go.Proofs.YtbcbmmgfdobdiaaDoor
open Go.RowKit

/-- a call that makes memory alone: what is known of a block, of a row stays -/
theorem Blk.stay {w w' : World} {g t : Nat} {cs : Array Value} (h : Blk w g t cs) (hb : Below w.heap.size w w') : Blk w' g t cs := h.below hb h.lt

theorem Reads.stay {w w' : World} {A : Option Addr} {n : Nat} {xs : List Value} (h : Reads w w.heap.size 1 A n xs) (hb : Below w.heap.size w w') : Reads w' w'.heap.size 1 A n xs := (h.below hb).more hb.size
theorem Reads.up {w : World} {B : Nat} {A : Option Addr} {n : Nat} {xs : List Value} (h : Reads w B 1 A n xs) (hb : B ≤ w.heap.size) : Reads w w.heap.size 1 A n xs := h.more hb
theorem reads_newE (w : World) (cs : Array Value) (e : TypeId) (xs : List Value) (n : Nat) (hn : w.heap.size = n) (h : cs.toList = xs) :
    Reads (w.alloc (.cells cs e)) (n + 1) 1 (some ⟨n, 0, none⟩) xs.length xs := by subst hn; exact reads_new w cs e xs h
theorem reads_newH (w : World) (cs : Array Value) (e : TypeId) (xs : List Value) (n : Nat) (hn : w.heap.size = n) (h : cs.toList = xs) :
    Reads (w.alloc (.cells cs e)) (w.alloc (.cells cs e)).heap.size 1 (some ⟨n, 0, none⟩) xs.length xs := (reads_newE w cs e xs n hn h).up (by simp; omega)
theorem below_new (w : World) (o : Obj) : Below w.heap.size w (w.alloc o) := (Below.refl _ _).alloc (Nat.le_refl _) _

theorem eqB_self (l : List Int) : eqB l l = true := by simp [eqB]
theorem len_of {w : World} {A : Option Addr} {n : Nat} {l : List Int} (h : Reads w w.heap.size 1 A n (l.map iv)) : l.length = n := by have := h.1; simpa using this

end Go.Proofs.YtbcbmmgfdobdiaaDoor
