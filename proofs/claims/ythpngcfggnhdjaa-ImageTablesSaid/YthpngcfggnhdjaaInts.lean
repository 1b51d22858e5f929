import Derived.Test.YthpngcfggnhdjaaWrite
namespace Go.Proofs.Ythpngcfggnhdjaa
open Go.RowKit Go.Proofs.Img

theorem vb_le (k u : Nat) : (vb k u).length ≤ k + 1 := by
  induction k generalizing u with
  | zero => simp [vb]
  | succ k ih => rw [vb]; split <;> simp; have := ih (u / 128); omega
theorem numB_le (n : Int) : (numB n).length ≤ 10 := vb_le _ _
theorem flat_le (l : List Int) : (l.flatMap numB).length ≤ 10 * l.length := by
  induction l with
  | nil => simp
  | cons x l ih => rw [List.flatMap_cons, List.length_append, List.length_cons]; have := numB_le x; omega
theorem intsB_le (l : List Int) : (intsB l).length ≤ 10 * l.length + 10 := by
  have := flat_le l; have := numB_le l.length; unfold intsB; rw [List.length_append]; omega
theorem lsB_one (l : List Int) : lsB [l] = intsB l := by simp [lsB]

set_option maxHeartbeats 400000 in
theorem ints_any (B n c : Nat) (A : Option Addr) (l : List Int) (w : World) (h : Reads w B 1 A n (l.map iv)) (hI : ∀ x ∈ l, I64 x)
    (hB : B ≤ w.heap.size) (hsz : n ≤ 100000000) :
    Calls Try.prog 16 #[.slice A n c] w fun e w' => e = .returned (.string ⟨(intsB l).toArray⟩) ∧ Below w.heap.size w w' := by
  have hn : l.length = n := by have := h.1; simpa using this
  have hr : Reads (w.alloc (.cells #[.slice A n c] 26)) (w.heap.size + 1) 1 (some ⟨w.heap.size, 0, none⟩) 1 [.slice A n c] :=
    ⟨rfl, fun _ => ⟨_, rfl, by simp, fun j u hu => cell_one_new _ _ _ j u hu⟩⟩
  have hl : RowsOf (w.alloc (.cells #[.slice A n c] 26)) (w.heap.size + 1) [.slice A n c] [l] := by
    refine ⟨rfl, fun j l' hj => ?_⟩
    cases j with
    | zero =>
      simp at hj; subst hj
      exact ⟨A, c, by simp [hn], by rw [hn]; exact (h.alloc hB _).more (by omega), hI⟩
    | succ j => simp at hj
  have Hc := Lib.hid ((write_any (w.heap.size + 1) 1 1 _ _ [l] _ hr hl (by simp) (by rw [lsB_one]; have := intsB_le l; omega)))
  clear hn hI hl hr
  go_enter Try.func16, Try.ntmps16
  go_wp2_with fail
  refine Hc.out.mono ?_
  rintro e w1 ⟨rfl, hb⟩
  go_wp2
  go_ret
  exact ⟨ret_str (lsB_one l), ((Below.refl _ _).alloc (Nat.le_refl _) _).trans (hb.mono (by simp))⟩

set_option maxRecDepth 100000 in
set_option maxHeartbeats 400000 in
theorem folded_any (x : Int) (w : World) (hx : I64 x) :
    Calls Try.prog 53 #[.int .i64 x] w fun e w' => e = .returned (.int .u64 (zig x : Int)) ∧ w = w' := by
  obtain ⟨hx1, hx2⟩ := hx
  by_cases hneg : x < 0
  · have Hn := Lib.hid hneg
    go_enter Try.func53, Try.ntmps53
    go_wp2
    go_ret
    exact ⟨ret_int (by unfold zig; rw [if_pos hneg]; omega), rfl⟩
  · have Hn := Lib.hid hneg
    go_enter Try.func53, Try.ntmps53
    go_wp2
    go_ret
    exact ⟨ret_int (by unfold zig; rw [if_neg (by omega)]; omega), rfl⟩

theorem lt64 {u k : Nat} (hu : u < 2 * 128 ^ k) (hk : k ≤ 9) : u < 18446744073709551616 := by
  have := Nat.pow_le_pow_right (n := 128) (by omega) hk
  have h9 := pow9
  omega
theorem refnum_step {x : Int} {w w1 : World} {k u : Nat} {done : List UInt8} {b : UInt8}
    (hu : u < 2 * 128 ^ k) (hd : done.length + k = 9) (he : numB x = done ++ vb k u) (h : ¬ u < 128) (hb : b = UInt8.ofNat (128 + u % 128)) (hB : Below w.heap.size w w1) :
    ∃ (k u' : Nat) (done' : List UInt8), Value.int .u64 (IntKind.u64.wrap ((u : Int) / 128)) = .int .u64 (u' : Int) ∧ Hid (u' < 2 * 128 ^ k) ∧ Hid (done'.length + k = 9) ∧ Hid (numB x = done' ++ vb k u') ∧ Value.string ({ data := done.toArray } ++ { data := #[b] }) = .string ⟨done'.toArray⟩ ∧ Below w.heap.size w w1 := by
  have h64 := lt64 hu (by omega)
  cases k with
  | zero => omega
  | succ k =>
    refine ⟨k, u / 128, done ++ [b], ?_, ?_, ?_, ?_, ?_, hB⟩
    · rw [IntKind.wrap_u64]; congr 1; omega
    · show u / 128 < _; rw [Nat.pow_succ] at hu; omega
    · show (done ++ [b]).length + k = 9; simp; omega
    · show numB x = _; rw [he, vb, if_neg h, hb]; simp
    · exact congrArg Value.string (ByteArray.mk_append_mk done [b])
theorem refnum_less {u k m : Nat} (h : ¬ u < 128) (hu : u < 2 * 128 ^ k) (hd : m + k = 9) : (intOf (Value.int .u64 (IntKind.u64.wrap ((u : Int) / 128)))).toNat < (intOf (Value.int .u64 (u : Int))).toNat := by
  have h64 := lt64 hu (by omega)
  simp only [intOf, IntKind.wrap_u64]; omega

set_option maxRecDepth 100000 in
set_option maxHeartbeats 400000 in
theorem refnumber_any (x : Int) (w : World) (hx : I64 x) :
    Calls Try.prog 37 #[.int .i64 x] w fun e w' => e = .returned (.string ⟨(numB x).toArray⟩) ∧ Below w.heap.size w w' := by
  have Hz := Lib.hid (zig_lt x hx.1 hx.2)
  go_enter Try.func37, Try.ntmps37
  go_wp2_with fail
  refine (folded_any x w hx).mono ?_
  rintro e w1 ⟨rfl, rfl⟩
  clear hx
  go_wp2
  go_loopw [3, 4] (fun u s wr => ∃ (k u' : Nat) (done : List UInt8), u = .int .u64 (u' : Int) ∧ Hid (u' < 2 * 128 ^ k) ∧ Hid (done.length + k = 9) ∧ Hid (numB x = done ++ vb k u') ∧ s = .string ⟨done.toArray⟩ ∧ Below w.heap.size w wr) (fun u _ _ => (intOf u).toNat)
  case atStart => exact ⟨9, zig x, [], rfl, by rw [pow9]; exact Hz.out, rfl, rfl, rfl, Below.refl _ _⟩
  case round =>
    obtain ⟨k, u', done, rfl, Hu, Hd, He, rfl, hb⟩ := hrel
    have hdl : done.length ≤ 9 := by have := Hd.out; omega
    by_cases h : u' < 128
    · have h' : ¬ (127 : Int) < u' := by omega
      have hcv := conv_new wr Try.underlying39 Try.underlying5 Try.underlying9 #[.int .u8 (u' : Int)] [UInt8.ofNat u'] (by rw [List.map_singleton, bv_ofNat u' (by omega)]) 1 rfl
      go_wp2
      go_ret
      exact ⟨congrArg (fun s => Ending.returned (.string s)) ((ByteArray.mk_append_mk done [UInt8.ofNat u']).trans (by rw [He.out, vb_lt h])), hb.alloc hb.size _⟩
    · have h' : (127 : Int) < u' := by omega
      obtain ⟨b, hbe⟩ : ∃ b, b = UInt8.ofNat (128 + u' % 128) := ⟨_, rfl⟩
      have hcv := conv_new wr Try.underlying39 Try.underlying5 Try.underlying9 #[.int .u8 (128 + (u' : Int) % 128)] [b] (by rw [List.map_singleton, hbe, bv_ofNat _ (by omega)]; rfl) 1 rfl
      have Hb := Lib.hid hbe
      clear hbe
      go_wp2
      go_roundw
      case rel => exact refnum_step Hu.out Hd.out He.out h Hb.out (hb.alloc hb.size _)
      case measure => exact refnum_less h Hu.out Hd.out

set_option maxRecDepth 100000 in
set_option maxHeartbeats 400000 in
theorem refints_any (B n c : Nat) (A : Option Addr) (l : List Int) (w : World) (h : Reads w B 1 A n (l.map iv)) (hI : ∀ x ∈ l, I64 x)
    (hB : B ≤ w.heap.size) (hsz : n ≤ 10000) :
    Calls Try.prog 17 #[.slice A n c] w fun e w' => e = .returned (.string ⟨(intsB l).toArray⟩) ∧ Below w.heap.size w w' := by
  have hn : l.length = n := by have := h.1; simpa using this
  have Hn := Lib.hid hn
  have HI := Lib.hid hI
  clear hn hI
  go_enter Try.func17, Try.ntmps17
  go_wp2_with fail
  refine (refnumber_any _ w ⟨by omega, by omega⟩).mono ?_
  rintro e w1 ⟨rfl, hb1⟩
  go_wp2
  go_loopw [3, 4] (fun s i wr => ∃ k : Nat, k ≤ n ∧ i = .int .i64 k ∧ s = .string ⟨(partB l k).toArray⟩ ∧ Below w.heap.size w wr) (fun _ i _ => n - (intOf i).toNat)
  case atStart => exact ⟨0, Nat.zero_le _, rfl, by simp [partB, Hn.out], hb1⟩
  case round =>
    obtain ⟨k, hk, rfl, rfl, hb⟩ := hrel
    have hpl := partB_le l k
    have hil := intsB_le l
    have hln : l.length ≤ n := by have := Hn.out; omega
    by_cases hlt : k < n
    · obtain ⟨ad, u, rfl, hadB, hu, hcell⟩ := (h.below (hb.mono hB)).at_ hlt
      obtain ⟨x, hx, rfl⟩ := getElem_map_iv hu
      have HxI := Lib.hid (HI.out x (List.mem_of_getElem? hx))
      have Hp := Lib.hid (partB_snoc l k x hx)
      have hnl := numB_le x
      clear hu hx
      go_wp2_with fail
      refine (refnumber_any x wr HxI.out).mono ?_
      rintro e w2 ⟨rfl, hb2⟩
      go_wp2
      go_roundw
      case rel => exact ⟨k + 1, by omega, by go_num, congrArg Value.string ((ByteArray.mk_append_mk _ _).trans (by rw [Hp.out])), hb.trans (hb2.mono hb.size)⟩
      case measure => simp [intOf]; omega
    · go_wp2
      go_ret
      exact ⟨ret_str (partB_all l k (by omega)), hb⟩
end Go.Proofs.Ythpngcfggnhdjaa
