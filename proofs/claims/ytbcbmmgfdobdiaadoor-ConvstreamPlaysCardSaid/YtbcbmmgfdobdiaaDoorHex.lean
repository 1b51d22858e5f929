/- Contracts of Hex (layer 1) and of the reference's Hex, Text, Compare, Equal. -/
import Derived.Test.YtbcbmmgfdobdiaaDoorCp
namespace Go.Proofs.YtbcbmmgfdobdiaaDoor
open Go.RowKit

/-- the sixteen digits -/
def digL : List UInt8 := [48, 49, 50, 51, 52, 53, 54, 55, 56, 57, 65, 66, 67, 68, 69, 70]
def dg (n : Nat) : UInt8 := digL.getD n 0
/-- the package-level table of digits, as its text lays it -/
def Dig (w : World) : Prop := ∀ j, j < 16 → w.cell? ⟨0, j, none⟩ = some (.int .u8 ((dg j).toNat : Int))
theorem Dig.lt {w : World} (h : Dig w) : 0 < w.heap.size := by
  have h0 := h 0 (by omega)
  rcases Nat.lt_or_ge 0 w.heap.size with hlt | hge
  · exact hlt
  · unfold World.cell? at h0
    rw [Array.getElem?_eq_none hge] at h0
    simp at h0
theorem Dig.below {w w' : World} (h : Dig w) (hb : Below w.heap.size w w') : Dig w' := fun j hj => (hb.cell (p := ⟨_, j, none⟩) h.lt).trans (h j hj)
theorem Dig.belowB {B : Nat} {w w' : World} (h : Dig w) (hb : Below B w w') (hB : 0 < B) : Dig w' := fun j hj => (hb.cell (p := ⟨_, j, none⟩) hB).trans (h j hj)

/-- the digits, at least four: i are written (acc), c is left -/
def hexFrom : Nat → Nat → Nat → List UInt8 → List UInt8
  | 0, _, _, acc => acc
  | f + 1, i, c, acc => if i < 4 ∨ 0 < c then hexFrom f (i + 1) (c / 16) (dg (c % 16) :: acc) else acc
def hexB (c : Int) : List UInt8 := if 0 ≤ c ∧ c ≤ 1114111 then hexFrom 6 0 c.toNat [] else []

def HexRel (w : World) (c0 : Int) (at_ i c : Value) (wr : World) : Prop :=
  ∃ (k p n : Nat) (acc : List UInt8) (cs : Array Value), k + p = 6 ∧ at_ = .int .i64 (p : Int) ∧ i = .int .i64 (k : Int) ∧ c = .int .i64 (n : Int) ∧ n < 16 ^ p ∧
    hexB c0 = hexFrom p k n acc ∧ acc.length = k ∧ Blk wr w.heap.size 141 cs ∧ cs.size = 6 ∧ cs.toList.drop p = acc.map bv ∧ Below w.heap.size w wr

theorem drop_set (cs : Array Value) (q : Nat) (v : Value) (acc : List Value) (hs : q < cs.size) (h : cs.toList.drop (q + 1) = acc) :
    (cs.setIfInBounds q v).toList.drop q = v :: acc := by
  have hl : q < (cs.toList.set q v).length := by simpa using hs
  rw [Array.toList_setIfInBounds, List.drop_eq_getElem_cons hl, ← h, List.drop_set_of_lt (by omega)]
  simp

theorem hex_step {w wr : World} {c0 : Int} {k q n : Nat} {acc : List UInt8} {cs : Array Value} (hk : k + (q + 1) = 6) (hn : n < 16 ^ (q + 1)) (he : hexB c0 = hexFrom (q + 1) k n acc) (ha : acc.length = k)
    (hB : Blk wr w.heap.size 141 cs) (hcs : cs.size = 6) (hdr : cs.toList.drop (q + 1) = acc.map bv) (hb : Below w.heap.size w wr) (hgo : k < 4 ∨ 0 < n) :
    HexRel w c0 (.int .i64 (q : Int)) (.int .i64 ((k : Int) + 1)) (.int .i64 ((n : Int) / 16)) (wr.setCell ⟨w.heap.size, q, none⟩ (.int .u8 ((dg (n % 16)).toNat : Int))) := by
  refine ⟨k + 1, q, n / 16, dg (n % 16) :: acc, cs.setIfInBounds q (.int .u8 ((dg (n % 16)).toNat : Int)), by omega, rfl, by congr 1, by congr 1, ?_, ?_, by simp [ha], hB.set_ q _, by simpa using hcs, ?_, hb.setCell (Nat.le_refl _) _⟩
  · rw [Nat.pow_succ] at hn; omega
  · rw [he, hexFrom, if_pos hgo]
  · exact drop_set cs q _ _ (by omega) hdr

theorem reads_tail {w : World} {b t p : Nat} {cs : Array Value} {xs : List Value} (hB : Blk w b t cs) (h : cs.toList.drop p = xs) : Reads w (b + 1) 1 (some ⟨b, p, none⟩) (cs.size - p) xs := by
  refine ⟨by rw [← h]; simp, fun _ => ⟨_, rfl, by simp, fun j u hu => ?_⟩⟩
  have hp : (⟨b, p, none⟩ : Addr).add j = ⟨b, p + j, none⟩ := by unfold Addr.add; split <;> simp_all
  rw [hp, hB.cell, ← hu, ← h, List.getElem?_drop]
  simp

theorem sl6_0 (b : Nat) (w : World) : (Instr.sliceAt 141 (.pointer (some ⟨b, 0, none⟩)) (some (.int .i64 0)) none none).run Tryd.prog w = .ok (.slice (some ⟨b, 0, none⟩) 6 6) w := by kernel_rfl
theorem sl6_1 (b : Nat) (w : World) : (Instr.sliceAt 141 (.pointer (some ⟨b, 0, none⟩)) (some (.int .i64 1)) none none).run Tryd.prog w = .ok (.slice (some ⟨b, 1, none⟩) 5 5) w := by kernel_rfl
theorem sl6_2 (b : Nat) (w : World) : (Instr.sliceAt 141 (.pointer (some ⟨b, 0, none⟩)) (some (.int .i64 2)) none none).run Tryd.prog w = .ok (.slice (some ⟨b, 2, none⟩) 4 4) w := by kernel_rfl
theorem sl6 (b p : Nat) (w : World) (hp : p ≤ 2) : (Instr.sliceAt 141 (.pointer (some ⟨b, 0, none⟩)) (some (.int .i64 (p : Int))) none none).run Tryd.prog w = .ok (.slice (some ⟨b, p, none⟩) (6 - p) (6 - p)) w := by
  have h : p = 0 ∨ p = 1 ∨ p = 2 := by omega
  rcases h with rfl | rfl | rfl
  · exact sl6_0 b w
  · exact sl6_1 b w
  · exact sl6_2 b w
theorem lt16 {n q : Nat} (hn : n < 16 ^ q) (hq : q ≤ 6) : n < 16777216 := by
  have := Nat.pow_le_pow_right (n := 16) (by omega) hq
  omega

set_option maxRecDepth 100000 in
set_option maxHeartbeats 1000000 in
theorem hex_any (c : Int) (w : World) (hd : Dig w) :
    Calls Tryd.prog 87 #[.int .i64 c] w fun e w' => e = .returned (.string ⟨(hexB c).toArray⟩) ∧ Below w.heap.size w w' := by
  by_cases hv : 0 ≤ c ∧ c ≤ 1114111
  · have Hv := Lib.hid (show validB c = true by simp [validB]; omega)
    obtain ⟨n0, rfl⟩ := Int.eq_ofNat_of_zero_le hv.1
    have hn0 : n0 ≤ 1114111 := by omega
    have He0 := Lib.hid (show hexB (n0 : Int) = hexFrom 6 0 n0 [] by rw [hexB, if_pos hv]; simp)
    clear hv
    have Hd := Lib.hid hd
    clear hd
    go_enter Tryd.func87, Tryd.ntmps87
    go_wp2_with fail
    refine (valid_any _ w).mono ?_
    rintro e w1 ⟨rfl, rfl⟩
    rw [Hv.out]
    go_wp2
    go_loopw [0, 4, 9] (fun c at_ i wr => HexRel w (n0 : Int) at_ i c wr) (fun _ _ i _ => 6 - (intOf i).toNat)
    case atStart => exact ⟨0, 6, n0, [], _, rfl, rfl, rfl, rfl, by omega, He0.out, rfl, Blk.new _ _ _, rfl, rfl, (Below.refl _ _).alloc (Nat.le_refl _) _⟩
    case round =>
      obtain ⟨k, p, n, acc, cs, hk, rfl, rfl, rfl, hn, he, ha, hB, hcs, hdr, hb⟩ := hrel
      have Hdw := Lib.hid (Hd.out.belowB hb Hd.out.lt)
      by_cases hgo : k < 6 ∧ (k < 4 ∨ 0 < n)
      · obtain ⟨hk6, hgo⟩ := hgo
        obtain ⟨q, rfl⟩ : ∃ q, p = q + 1 := ⟨p - 1, by omega⟩
        have Hst := Lib.hid (hex_step hk hn he ha hB hcs hdr hb hgo)
        have hdig := Hdw.out (n % 16) (by omega)
        obtain ⟨old, hcell⟩ : ∃ old, wr.cell? ⟨w.heap.size, q, none⟩ = some old := ⟨_, (hB.cell q).trans (Array.getElem?_eq_getElem (show q < cs.size by omega))⟩
        have hfz := hB.frozen q
        have hq6 : (q : Int) < 6 := by omega
        have hnb := lt16 hn (by omega)
        generalize (dg (n % 16)).toNat = d at hdig Hst
        clear hn he ha hdr hB hk hcs
        by_cases hk4 : k < 4
        · have hk4' : ¬ (4 : Int) ≤ (k : Int) := by omega
          clear hgo
          go_wp2
          go_roundw
          case rel => exact Hst.out
          case measure => simp [intOf]; omega
        · have hk4' : (4 : Int) ≤ (k : Int) := by omega
          have hn0' : ((n : Int) == 0) = false := by simp; omega
          clear hgo
          go_wp2
          go_roundw
          case rel => exact Hst.out
          case measure => simp [intOf]; omega
      · have hp6 : p ≤ cs.size := by omega
        have Hend := Lib.hid (show hexB (n0 : Int) = acc by
          rw [he]
          cases p with
          | zero => rfl
          | succ q => rw [hexFrom, if_neg (by omega)])
        have hrd := reads_tail hB hdr
        rw [hcs] at hrd
        have hcv := run_convert_reads (P := Tryd.prog) wr Tryd.underlying92 Tryd.underlying5 Tryd.underlying9 (6 - p) hrd
        have hsl := sl6 w.heap.size p wr (by omega)
        have hp6' : p ≤ 6 := by omega
        clear he ha hdr hB hcs hrd
        by_cases hk6 : k < 6
        · have hk4' : (4 : Int) ≤ (k : Int) := by omega
          have hn0' : ((n : Int) == 0) = true := by simp; omega
          have hk6' : (k : Int) < 6 := by omega
          clear hgo hn hk
          go_wp2
          go_ret
          exact ⟨ret_str Hend.out.symm, hb⟩
        · have hk6' : ¬ (k : Int) < 6 := by omega
          clear hgo hn hk
          go_wp2
          go_ret
          exact ⟨ret_str Hend.out.symm, hb⟩
  · have Hv := Lib.hid (show validB c = false by simp [validB]; omega)
    have He := Lib.hid (show hexB c = [] by rw [hexB, if_neg hv])
    clear hv hd
    go_enter Tryd.func87, Tryd.ntmps87
    go_wp2_with fail
    refine (valid_any _ w).mono ?_
    rintro e w1 ⟨rfl, rfl⟩
    rw [Hv.out]
    go_wp2
    go_ret
    exact ⟨ret_str He.out.symm, Below.refl _ _⟩

def strLen : Value → Nat | .string b => b.size | _ => 0
theorem dig_ext : ∀ m : Fin 16, ((⟨#[48, 49, 50, 51, 52, 53, 54, 55, 56, 57, 65, 66, 67, 68, 69, 70]⟩ : ByteArray).extract m.val (m.val + 1)).data.toList = [dg m.val] := by decide +kernel
theorem dig_slice (n : Nat) (w : World) : (Instr.slice 9 (.string ⟨#[48, 49, 50, 51, 52, 53, 54, 55, 56, 57, 65, 66, 67, 68, 69, 70]⟩) (some (.int .i64 ((n : Int) % 16))) (some (.int .i64 ((n : Int) % 16 + 1))) none).run Tryd.prog w = .ok (.string ⟨#[dg (n % 16)]⟩) w := by
  have hm : n % 16 < 16 := by omega
  have e := dig_ext ⟨n % 16, hm⟩
  rw [run_slice_string w 9 _ _ _ _ _ Tryd.underlying9 (by omega) (by omega) (show (n : Int) % 16 + 1 ≤ 16 by omega)]
  have e1 : ((n : Int) % 16).toNat = n % 16 := by omega
  have e2 : ((n : Int) % 16 + 1).toNat = n % 16 + 1 := by omega
  rw [e1, e2]
  congr 2
  generalize (⟨#[48, 49, 50, 51, 52, 53, 54, 55, 56, 57, 65, 66, 67, 68, 69, 70]⟩ : ByteArray).extract (n % 16) (n % 16 + 1) = x at e
  obtain ⟨⟨l⟩⟩ := x
  simp at e
  simp [e]

set_option maxRecDepth 100000 in
set_option maxHeartbeats 1000000 in
theorem rhex_any (c : Int) (w : World) :
    Calls Tryd.prog 98 #[.int .i64 c] w fun e w' => e = .returned (.string ⟨(hexB c).toArray⟩) ∧ w = w' := by
  by_cases hv : 0 ≤ c ∧ c ≤ 1114111
  · have Hv := Lib.hid (show validB c = true by simp [validB]; omega)
    obtain ⟨n0, rfl⟩ := Int.eq_ofNat_of_zero_le hv.1
    have hn0 : n0 ≤ 1114111 := by omega
    have He0 := Lib.hid (show hexB (n0 : Int) = hexFrom 6 0 n0 [] by rw [hexB, if_pos hv]; simp)
    clear hv
    go_enter Tryd.func98, Tryd.ntmps98
    go_wp2_with fail
    refine (rvalid_any _ w).mono ?_
    rintro e w1 ⟨rfl, rfl⟩
    rw [Hv.out]
    go_wp2
    go_loop [0, 3] (fun c s => ∃ (p n : Nat) (acc : List UInt8), c = .int .i64 (n : Int) ∧ s = .string ⟨acc.toArray⟩ ∧ Hid (acc.length + p = 6 ∧ n < 16 ^ p ∧ hexB (n0 : Int) = hexFrom p acc.length n acc)) (fun _ s => 6 - strLen s)
    case atStart => exact ⟨6, n0, [], rfl, rfl, ⟨rfl, by omega, He0.out⟩⟩
    case round =>
      obtain ⟨p, n, acc, rfl, rfl, H⟩ := hrel
      have hnb : n < 16777216 := lt16 H.out.2.1 (by have := H.out.1; omega)
      have hal : acc.length ≤ 6 := by have := H.out.1; omega
      have hds := dig_slice n w
      by_cases hgo : acc.length < 4 ∨ 0 < n
      · have Hst : Hid (∃ (p n' : Nat) (acc' : List UInt8), Value.int .i64 ((n : Int) / 16) = .int .i64 (n' : Int) ∧ Value.string ({ data := #[dg (n % 16)] } ++ { data := acc.toArray }) = .string ⟨acc'.toArray⟩ ∧ Hid (acc'.length + p = 6 ∧ n' < 16 ^ p ∧ hexB (n0 : Int) = hexFrom p acc'.length n' acc')) := by
          obtain ⟨h1, h2, h3⟩ := H.out
          cases p with
          | zero => simp at h2; omega
          | succ q =>
            refine ⟨q, n / 16, dg (n % 16) :: acc, by congr 1, congrArg Value.string (ByteArray.mk_append_mk [dg (n % 16)] acc), ⟨by simp; omega, by rw [Nat.pow_succ] at h2; omega, ?_⟩⟩
            rw [h3, hexFrom, if_pos hgo]; rfl
        have hless : acc.length < 6 := by
          obtain ⟨h1, h2, h3⟩ := H.out
          rcases Nat.eq_zero_or_pos p with rfl | hp
          · simp at h2; omega
          · omega
        generalize dg (n % 16) = d at hds Hst
        by_cases h4 : acc.length < 4
        · have h4' : (acc.length : Int) < 4 := by omega
          clear hgo H
          go_wp2
          go_round
          case rel => exact Hst.out
          case measure => simp [strLen, ByteArray.size_mk']; omega
        · have h4' : ¬ (acc.length : Int) < 4 := by omega
          have h0' : (0 : Int) < (n : Int) := by omega
          clear hgo H
          go_wp2
          go_round
          case rel => exact Hst.out
          case measure => simp [strLen, ByteArray.size_mk']; omega
      · have Hend := Lib.hid (show hexB (n0 : Int) = acc by
          obtain ⟨h1, h2, h3⟩ := H.out
          rw [h3]
          cases p with
          | zero => rfl
          | succ q => rw [hexFrom, if_neg hgo])
        have h4' : ¬ (acc.length : Int) < 4 := by omega
        have h0' : ¬ (0 : Int) < (n : Int) := by omega
        clear hgo H
        go_wp2
        go_ret
        exact ⟨ret_str Hend.out.symm, rfl⟩
  · have Hv := Lib.hid (show validB c = false by simp [validB]; omega)
    have He := Lib.hid (show hexB c = [] by rw [hexB, if_neg hv])
    clear hv
    go_enter Tryd.func98, Tryd.ntmps98
    go_wp2_with fail
    refine (rvalid_any _ w).mono ?_
    rintro e w1 ⟨rfl, rfl⟩
    rw [Hv.out]
    go_wp2
    go_ret
    exact ⟨ret_str He.out.symm, rfl⟩
end Go.Proofs.YtbcbmmgfdobdiaaDoor
