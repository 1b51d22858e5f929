import Derived.Test.YthpngcfggnhdjaaNum
namespace Go.Proofs.Ythpngcfggnhdjaa
open Go.RowKit Go.Proofs.Img

/-- the rows of a slice of slices of ints -/
def RowsOf (w : World) (B : Nat) (rows : List Value) (ls : List (List Int)) : Prop :=
  rows.length = ls.length ∧ ∀ (j : Nat) (l : List Int), ls[j]? = some l → ∃ A c, rows[j]? = some (.slice A l.length c) ∧ Reads w B 1 A l.length (l.map iv) ∧ ∀ x ∈ l, I64 x

def lsB (ls : List (List Int)) : List UInt8 := ls.flatMap intsB

theorem lsB_snoc (ls : List (List Int)) (k : Nat) (l : List Int) (h : ls[k]? = some l) : lsB (ls.take (k + 1)) = lsB (ls.take k) ++ intsB l := by
  obtain ⟨hk, he⟩ := List.getElem?_eq_some_iff.1 h
  rw [List.take_succ_eq_append_getElem hk, he]; simp [lsB]
theorem lsB_take (ls : List (List Int)) (k : Nat) : (lsB (ls.take k)).length ≤ (lsB ls).length := by
  have h : lsB ls = lsB (ls.take k) ++ lsB (ls.drop k) := by rw [lsB, lsB, lsB, ← List.flatMap_append, List.take_append_drop]
  rw [h]; simp
def partB (l : List Int) (j : Nat) : List UInt8 := numB l.length ++ (l.take j).flatMap numB
theorem partB_snoc (l : List Int) (j : Nat) (x : Int) (h : l[j]? = some x) : partB l (j + 1) = partB l j ++ numB x := by
  obtain ⟨hk, he⟩ := List.getElem?_eq_some_iff.1 h
  unfold partB
  rw [List.take_succ_eq_append_getElem hk, he]; simp
theorem partB_le (l : List Int) (j : Nat) : (partB l j).length ≤ (intsB l).length := by
  have h : intsB l = partB l j ++ (l.drop j).flatMap numB := by rw [intsB, partB, List.append_assoc, ← List.flatMap_append, List.take_append_drop]
  rw [h]; simp
theorem partB_all (l : List Int) (j : Nat) (h : l.length ≤ j) : partB l j = intsB l := by
  rw [partB, intsB, List.take_of_length_le h]


theorem len_intsB1 (l : List Int) : 1 ≤ (intsB l).length := by
  have := numB_len l.length; unfold intsB; rw [List.length_append]; omega
theorem len_lsB (ls : List (List Int)) : ls.length ≤ (lsB ls).length := by
  induction ls with
  | nil => simp
  | cons l ls ih =>
    have := len_intsB1 l
    have e : lsB (l :: ls) = intsB l ++ lsB ls := by simp [lsB]
    rw [e, List.length_append, List.length_cons]; omega
theorem len_intsB (l : List Int) : l.length ≤ (intsB l).length := by
  have := flat_len l; unfold intsB; rw [List.length_append]; omega
theorem RowsOf.at_ {w : World} {B : Nat} {rows : List Value} {ls : List (List Int)} (h : RowsOf w B rows ls) {k : Nat} (hk : k < ls.length) :
    ∃ l A c, ls[k]? = some l ∧ rows[k]? = some (.slice A l.length c) ∧ Reads w B 1 A l.length (l.map iv) ∧ ∀ x ∈ l, I64 x := by
  have e := List.getElem?_eq_getElem hk
  obtain ⟨A, c, h1, h2, h3⟩ := h.2 k _ e
  exact ⟨_, A, c, e, h1, h2, h3⟩
theorem getElem_map_iv {l : List Int} {j : Nat} {u : Value} (h : (l.map iv)[j]? = some u) : ∃ x, l[j]? = some x ∧ u = .int .i64 x := by
  rw [List.getElem?_map] at h
  cases e : l[j]? with
  | none => simp [e] at h
  | some x => simp [e] at h; exact ⟨x, rfl, h.symm⟩

set_option maxRecDepth 100000 in
set_option maxHeartbeats 800000 in
theorem write_any (B n c : Nat) (A : Option Addr) (rows : List Value) (ls : List (List Int)) (w : World) (hr : Reads w B 1 A n rows) (hl : RowsOf w B rows ls)
    (hB : B ≤ w.heap.size) (hsz : (lsB ls).length ≤ 10000000000) :
    Calls Try.prog 36 #[.slice A n c] w fun e w' => e = .returned (.string ⟨(lsB ls).toArray⟩) ∧ Below w.heap.size w w' := by
  have hn : n = ls.length := by have := hr.1; have := hl.1; omega
  have Hn := Lib.hid hn
  have Hl := Lib.hid hl
  have hn63 : n ≤ 10000000000 := by have := len_lsB ls; omega
  clear hl hn
  go_enter Try.func36, Try.ntmps36
  go_wp2
  go_loopw [3, 10] (fun v i wr => ∃ k : Nat, k ≤ n ∧ i = .int .i64 k ∧ wr.ownsRow w.heap.size 5 1 v (lsB (ls.take k)).length ((lsB (ls.take k)).map bv) ∧ Below w.heap.size w wr) (fun _ i _ => n - (intOf i).toNat)
  case atStart => exact ⟨0, Nat.zero_le _, rfl, by simpa [lsB] using World.ownsRow_nil _ _ _ _, Below.refl _ _⟩
  case round =>
    obtain ⟨k, hk, rfl, ho, hb⟩ := hrel
    by_cases hlt : k < n
    · obtain ⟨ad, u, rfl, hadB, hu, hcell⟩ := (hr.below (hb.mono hB)).at_ hlt
      obtain ⟨l, A2, c2, hlk, hrow, hl2, hI⟩ := Hl.out.at_ (k := k) (by have := Hn.out; omega)
      rw [hrow] at hu
      obtain rfl : u = .slice A2 l.length c2 := by injection hu with hu; exact hu.symm
      have hsn := lsB_snoc ls k l hlk
      have hle := lsB_take ls (k + 1)
      have hle2 : (lsB (ls.take k)).length + (intsB l).length ≤ 10000000000 := by rw [hsn] at hle; simp at hle; omega
      have hlen := len_intsB l
      have HI := Lib.hid hI
      have Hs := Lib.hid hsn
      have Hlk := Lib.hid hlk
      have Hrow := Lib.hid hrow
      clear hu hI hsn hlk hrow hle
      go_wp2_with fail
      refine (number_own w.heap.size _ u3 _ (l.length : Int) wr ⟨by omega, by omega⟩ ho hb.size (by omega)).mono ?_
      rintro e w1 ⟨v1, rfl, ho1, hb1⟩
      obtain ⟨wo, rfl⟩ : ∃ wo : World, wo = wr := ⟨_, rfl⟩
      go_wp2
      go_loopw [3, 20] (fun v i wr => ∃ j : Nat, j ≤ l.length ∧ i = .int .i64 j ∧ wr.ownsRow w.heap.size 5 1 v ((lsB (ls.take k)).length + (partB l j).length) ((lsB (ls.take k)).map bv ++ (partB l j).map bv) ∧ Below w.heap.size w wr) (fun _ i _ => l.length - (intOf i).toNat)
      case atStart => exact ⟨0, Nat.zero_le _, rfl, by simpa [partB] using ho1, hb.trans hb1⟩
      case round =>
        obtain ⟨j, hj, rfl, ho2, hb2⟩ := hrel
        by_cases hjl : j < l.length
        · obtain ⟨ad2, u, rfl, hadB2, hu, hcell2⟩ := (hl2.below (hb2.mono hB)).at_ hjl
          obtain ⟨x, hx, rfl⟩ := getElem_map_iv hu
          have hxI := HI.out x (List.mem_of_getElem? hx)
          have HxI := Lib.hid hxI
          have Hp := Lib.hid (partB_snoc l j x hx)
          have hpl := partB_le l j
          clear hu hx hxI
          go_wp2_with fail
          refine (number_own w.heap.size _ _ _ x wr HxI.out ho2 hb2.size (by omega)).mono ?_
          rintro e w3 ⟨v3, rfl, ho3, hb3⟩
          go_wp2
          go_roundw
          case rel => exact ⟨j + 1, by omega, by go_num, by rw [Hp.out]; simpa [Nat.add_assoc] using ho3, hb2.trans hb3⟩
          case measure => simp [intOf]; omega
        · go_wp2
          go_roundw
          case rel => exact ⟨k + 1, by omega, by go_num, by rw [Hs.out]; rw [partB_all l j (by omega)] at ho2; simpa using ho2, hb2⟩
          case measure => simp [intOf]; omega
    · have hcv := run_convert_own Try.underlying39 Try.underlying5 Try.underlying9 ho
      have He := Lib.hid (show ls.take k = ls from List.take_of_length_le (by have := Hn.out; omega))
      go_wp2
      go_ret
      exact ⟨ret_str (by rw [He.out]), hb⟩
end Go.Proofs.Ythpngcfggnhdjaa
