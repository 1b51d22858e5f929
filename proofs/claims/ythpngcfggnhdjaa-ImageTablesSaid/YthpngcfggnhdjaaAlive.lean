import Derived.Test.YthpngcfggnhdjaaRdI
import Derived.Test.YthpngcfggnhdjaaSum
namespace Go.Proofs.Ythpngcfggnhdjaa
open Go.RowKit Go.Proofs.Img

theorem sum_l (l : List UInt8) (w : World) (hs : l.length ≤ 1000000) :
    Calls Try.prog 13 #[.string ⟨l.toArray⟩] w fun e w' => e = .returned (.int .u32 (fnv l)) ∧ w = w' := by
  simpa using sum_any ⟨l.toArray⟩ w hs
theorem refsum_l (l : List UInt8) (w : World) (hs : l.length ≤ 1000000) :
    Calls Try.prog 14 #[.string ⟨l.toArray⟩] w fun e w' => e = .returned (.int .u32 (fnv l)) ∧ w = w' := by
  simpa using refsum_any ⟨l.toArray⟩ w hs

theorem take_ext {l m : List Int} {k : Nat} {x : Int} (h : l.take k = m.take k) (h1 : l[k]? = some x) (h2 : m[k]? = some x) : l.take (k + 1) = m.take (k + 1) := by
  obtain ⟨a1, a2⟩ := List.getElem?_eq_some_iff.1 h1
  obtain ⟨b1, b2⟩ := List.getElem?_eq_some_iff.1 h2
  rw [List.take_succ_eq_append_getElem a1, List.take_succ_eq_append_getElem b1, h, a2, b2]

def SameB (l m : List Int) : Bool := decide (l = m)
set_option maxRecDepth 100000 in
set_option maxHeartbeats 400000 in
theorem same_any (B n c n' c' : Nat) (A A' : Option Addr) (l m : List Int) (w : World) (h : Reads w B 1 A n (l.map iv)) (h' : Reads w B 1 A' n' (m.map iv)) (hn : n ≤ 1000000) (hn' : n' ≤ 1000000) :
    Calls Try.prog 19 #[.slice A n c, .slice A' n' c'] w fun e w' => e = .returned (.bool (SameB l m)) ∧ ∃ q, w' = w.drewN q := by
  have hl : l.length = n := by have := h.1; simpa using this
  have hm : m.length = n' := by have := h'.1; simpa using this
  by_cases hne : n = n'
  · subst hne
    have hq : ((n : Int) != (n : Int)) = false := by simp
    have Hl := Lib.hid hl
    have Hm := Lib.hid hm
    clear hl hm
    go_enter Try.func19, Try.ntmps19
    go_wp2
    go_loopw [5] (fun i wr => ∃ k q : Nat, k ≤ n ∧ i = .int .i64 k ∧ l.take k = m.take k ∧ wr = w.drewN q) (fun i _ => n - (intOf i).toNat)
    case atStart => exact ⟨0, 0, Nat.zero_le _, rfl, by simp, rfl⟩
    case round =>
      obtain ⟨k, q, hk, rfl, he, rfl⟩ := hrel
      have He := Lib.hid he
      clear he
      by_cases hlt : k < n
      · obtain ⟨ad, u, rfl, hadB, hu, hcell⟩ := h.at_ hlt
        obtain ⟨ad', u', rfl, hadB', hu', hcell'⟩ := h'.at_ hlt
        obtain ⟨x, hx, rfl⟩ := getElem_map_iv hu
        obtain ⟨x', hx', rfl⟩ := getElem_map_iv hu'
        have Hx := Lib.hid hx
        have Hx' := Lib.hid hx'
        clear hu hu' hx hx'
        by_cases hxx : x = x'
        · subst hxx
          go_wp2
          go_quiet (fail)
          go_wp2
          go_roundw
          case rel => exact ⟨k + 1, _, by omega, by go_num, take_ext He.out Hx.out Hx'.out, rfl⟩
          case measure => simp [intOf]; omega
        · have hb : (x != x') = true := by simpa using hxx
          have Hs := Lib.hid (show SameB l m = false by
            unfold SameB; rw [decide_eq_false_iff_not]; intro e; rw [e, Hx'.out] at Hx; exact hxx (by have := Hx.out; injection this with this; exact this.symm))
          clear hxx
          go_wp2
          go_quiet (fail)
          go_wp2
          go_ret
          exact ⟨by rw [Hs.out]; rfl, _, World.drewN_drewN _ _ _⟩
      · have Hs := Lib.hid (show SameB l m = true by
          unfold SameB; rw [decide_eq_true_iff]; have := He.out; rwa [List.take_of_length_le (by rw [Hl.out]; omega), List.take_of_length_le (by rw [Hm.out]; omega)] at this)
        go_wp2
        go_ret
        exact ⟨by rw [Hs.out]; rfl, _, rfl⟩
  · have hq : ((n : Int) != (n' : Int)) = true := by simp; omega
    have Hs := Lib.hid (show SameB l m = false by
      unfold SameB; rw [decide_eq_false_iff_not]; intro e; rw [e] at hl; omega)
    clear hl hm hne
    go_enter Try.func19, Try.ntmps19
    go_wp2
    go_ret
    exact ⟨by rw [Hs.out]; rfl, 0, rfl⟩

theorem reads_of_val {w : World} {base n : Nat} {e : TypeId} {v : Value} {xs : List Value} (h : w.ownsRow base e 1 v n xs) : ∃ A c, v = .slice A n c ∧ Reads w w.heap.size 1 A n xs := by
  have h0 := h
  rcases h0.2 with ⟨rfl, rfl⟩ | ⟨g, cap, cur, rfl, _⟩
  · exact ⟨none, 0, rfl, Reads.of_own h⟩
  · exact ⟨_, cap, rfl, Reads.of_own h⟩

theorem lt_of_cell {w : World} {a : Addr} {v : Value} (h : w.cell? a = some v) : a.block < w.heap.size := by
  rcases Nat.lt_or_ge a.block w.heap.size with hlt | hge
  · exact hlt
  · unfold World.cell? at h
    rw [Array.getElem?_eq_none hge] at h
    simp at h
theorem wf_i64 {n : Int} (h : (Lit.int .i64 n).wf = true) : I64 n := by
  simpa [Lit.wf, IntKind.min, IntKind.max, IntKind.signed, IntKind.bits, I64] using h
theorem reads_of_row {w : World} {a : Option Addr} {len cap : Nat} {zs : List Int} (h : (a = none ∧ len = 0 ∧ cap = 0 ∧ zs = []) ∨
    ∃ x, a = some x ∧ len ≤ cap ∧ cap ≤ maxLen ∧ zs.length = cap ∧ (∀ i, i < zs.length → w.cell? (x.add i) = some (.int .i64 (zs.getD i 0))) ∧ ∀ n ∈ zs, (Lit.int .i64 n).wf = true) :
    ∃ l : List Int, Reads w w.heap.size 1 a len (l.map iv) ∧ (∀ x ∈ l, I64 x) ∧ len ≤ cap := by
  rcases h with ⟨rfl, rfl, rfl, rfl⟩ | ⟨x, rfl, h1, h2, h3, h4, h5⟩
  · exact ⟨[], Reads.none_, by simp, Nat.le_refl _⟩
  · refine ⟨zs.take len, ⟨by simp; omega, fun h0 => ⟨x, rfl, ?_, fun j u hj => ?_⟩⟩, fun y hy => wf_i64 (h5 y (List.mem_of_mem_take hy)), h1⟩
    · have := lt_of_cell (h4 0 (by omega)); rwa [block_of_add] at this
    · obtain ⟨y, hy, rfl⟩ := getElem_map_iv hj
      obtain ⟨a1, a2⟩ := List.getElem?_eq_some_iff.1 hy
      rw [List.length_take] at a1
      rw [h4 j (by omega)]
      rw [List.getElem_take] at a2
      simp [List.getD, List.getElem?_eq_getElem (show j < zs.length by omega), a2]

theorem ex_read : readL [4, 2, 1, 114, 101, 115, 116] = .ok ([1, -1], 3) := by rfl
theorem ex_ints : intsB [1, -1] = [4, 2, 1] := by rfl
theorem ex_I : ∀ x ∈ ([1, -1] : List Int), I64 x := by
  intro x hx
  simp at hx
  rcases hx with rfl | rfl <;> exact ⟨by omega, by omega⟩

set_option maxRecDepth 100000 in
set_option maxHeartbeats 400000 in
theorem alive_any (w : World) : Calls Try.prog 15 #[] w fun e w' => e = .returned (.bool true) ∧ Below w.heap.size w w' := by
  go_enter Try.func15, Try.ntmps15
  go_wp2_with fail
  refine (readInts_ok [4, 2, 1, 114, 101, 115, 116] [1, -1] 3 w (by decide) ex_read).mono ?_
  rintro e w1 ⟨v, rfl, ho, hb⟩
  obtain ⟨A, c, rfl, hr⟩ := reads_of_val ho
  go_wp2_with fail
  refine (ints_any (w1.heap.size + 1) 2 2 _ [1, -1] _ (reads_new w1 #[.int .i64 1, .int .i64 (-1)] 3 ([1, -1].map iv) rfl) ex_I (by simp) (by omega)).mono ?_
  rintro e w2 ⟨rfl, hb2⟩
  rw [ex_ints]
  have hr2 : Reads w2 w1.heap.size 1 A 2 ([1, -1].map iv) := (hr.alloc (Nat.le_refl _) _).below (hb2.mono (by simp))
  have hsz2 : w1.heap.size ≤ w2.heap.size := by have := hb2.size; simp at this; omega
  have hr3 := (hr2.alloc hsz2 (.cells #[.int .i64 1, .int .i64 (-1)] 3)).more (show w1.heap.size ≤ w2.heap.size + 1 by omega)
  have Hs := Lib.hid (same_any (w2.heap.size + 1) 2 c 2 2 A _ [1, -1] [1, -1] _ hr3 (reads_new w2 #[.int .i64 1, .int .i64 (-1)] 3 ([1, -1].map iv) rfl) (by omega) (by omega))
  have hb3 : Below w.heap.size w (w2.alloc (.cells #[.int .i64 1, .int .i64 (-1)] 3)) :=
    ((hb.alloc hb.size _).trans (hb2.mono (by have := hb.size; simp; omega))).alloc (by have := hb.size; omega) _
  clear hr hr2 hr3 ho
  go_wp2_with fail
  refine Hs.out.mono ?_
  rintro e w3 ⟨rfl, q, rfl⟩
  rw [show SameB [1, -1] [1, -1] = true from rfl]
  go_wp2_with fail
  refine (sum_l [] _ (by simp)).mono ?_
  rintro e w4 ⟨rfl, rfl⟩
  rw [show fnv [] = 2166136261 from rfl]
  go_wp2
  go_ret
  exact ⟨rfl, below_drewN hb3 _⟩
end Go.Proofs.Ythpngcfggnhdjaa
