/- SamePools, and the walk of ImageReadPools. -/
import Derived.Test.YthpngcfggnhdjaaRPl
import Derived.Test.YthpngcfggnhdjaaWk2
namespace Go.Proofs.Ythpngcfggnhdjaa
open Go.RowKit Go.Proofs.Img

theorem same_self (l : List Int) : SameB l l = true := by simp [SameB]
theorem sameH (A A' : Option Addr) (n c c' : Nat) (l : List Int) (w : World) (h : Reads w w.heap.size 1 A n (l.map iv)) (h' : Reads w w.heap.size 1 A' n (l.map iv)) (hn : n ≤ 1000000) :
    Calls Try.prog 19 #[.slice A n c, .slice A' n c'] w fun e w' => e = .returned (.bool true) ∧ Below w.heap.size w w' :=
  (same_any w.heap.size n c n c' A A' l l w h h' hn hn).mono fun e w' ⟨h1, q, h2⟩ => ⟨by rw [h1, same_self], by subst h2; exact below_drewN (Below.refl _ _) q⟩

set_option maxRecDepth 100000 in
set_option maxHeartbeats 2000000 in
theorem samePools (A0 A1 A2 B0 B1 B2 : Option Addr) (n0 n1 n2 c0 c1 c2 d0 d1 d2 : Nat) (x y z : List Int) (w : World) (a0 : Reads w w.heap.size 1 A0 n0 (x.map iv)) (a1 : Reads w w.heap.size 1 A1 n1 (y.map iv)) (a2 : Reads w w.heap.size 1 A2 n2 (z.map iv))
    (b0 : Reads w w.heap.size 1 B0 n0 (x.map iv)) (b1 : Reads w w.heap.size 1 B1 n1 (y.map iv)) (b2 : Reads w w.heap.size 1 B2 n2 (z.map iv)) (l0 : n0 ≤ 1000000) (l1 : n1 ≤ 1000000) (l2 : n2 ≤ 1000000) :
    Calls Try.prog 26 #[.agg #[.slice A0 n0 c0, .slice A1 n1 c1, .slice A2 n2 c2], .agg #[.slice B0 n0 d0, .slice B1 n1 d1, .slice B2 n2 d2]] w fun e w' => e = .returned (.bool true) ∧ Below w.heap.size w w' := by
  have e1 := newBl w (.cells #[.slice A0 n0 c0, .slice A1 n1 c1, .slice A2 n2 c2] 42)
  have p1 := Blk.new w 42 #[.slice A0 n0 c0, .slice A1 n1 c1, .slice A2 n2 c2]
  have e2 := newBl (w.alloc (.cells #[.slice A0 n0 c0, .slice A1 n1 c1, .slice A2 n2 c2] 42)) (.cells #[.slice B0 n0 d0, .slice B1 n1 d1, .slice B2 n2 d2] 42)
  have q1 := Blk.new (w.alloc (.cells #[.slice A0 n0 c0, .slice A1 n1 c1, .slice A2 n2 c2] 42)) 42 #[.slice B0 n0 d0, .slice B1 n1 d1, .slice B2 n2 d2]
  have p2 := stayBl p1 e2
  have hs : (w.alloc (.cells #[.slice A0 n0 c0, .slice A1 n1 c1, .slice A2 n2 c2] 42)).heap.size = w.heap.size + 1 := by simp
  rw [hs] at q1
  have b := e1.trans (e2.mono e1.size)
  clear p1 e1 e2 hs
  go_enter Try.func26, Try.ntmps26
  go_wp2_with fail
  obtain ⟨W, hW⟩ : ∃ W, W = (w.alloc (.cells #[.slice A0 n0 c0, .slice A1 n1 c1, .slice A2 n2 c2] 42)).alloc (.cells #[.slice B0 n0 d0, .slice B1 n1 d1, .slice B2 n2 d2] 42) := ⟨_, rfl⟩
  rw [← hW] at q1 p2 b ⊢
  clear hW
  refine (sameH A0 B0 n0 c0 d0 x W (stayR a0 b) (stayR b0 b) l0).mono ?_
  rintro e w1 ⟨rfl, hb1⟩
  have p3 := stayBl p2 hb1
  have q3 := stayBl q1 hb1
  have b3 := b.trans (hb1.mono b.size)
  clear p2 q1 b hb1
  have k0 := p3.cell 1
  have k1 := q3.cell 1
  go_wp2_with fail
  clear k0 k1
  refine (sameH A1 B1 n1 c1 d1 y w1 (stayR a1 b3) (stayR b1 b3) l1).mono ?_
  rintro e w2 ⟨rfl, hb2⟩
  have p4 := stayBl p3 hb2
  have q4 := stayBl q3 hb2
  have b4 := b3.trans (hb2.mono b3.size)
  clear p3 q3 b3 hb2
  have k0 := p4.cell 2
  have k1 := q4.cell 2
  go_wp2_with fail
  clear k0 k1
  refine (sameH A2 B2 n2 c2 d2 z w2 (stayR a2 b4) (stayR b2 b4) l2).mono ?_
  rintro e w3 ⟨rfl, hb3⟩
  go_wp2
  go_ret
  exact ⟨rfl, b4.trans (hb3.mono b4.size)⟩

theorem poolR_len (s : List UInt8) : (poolR s).1.codes.length ≤ s.length ∧ (poolR s).1.starts.length ≤ s.length ∧ (poolR s).1.lengths.length ≤ s.length := by
  have ho := openR_len s
  unfold poolR
  split
  · simp [Pl.none]
  · cases h : bodyP (openR s).1 with
    | error e => simp [Pl.none]
    | ok p =>
      simp only
      split
      · rw [bodyP_lists] at h
        cases hl : lists 3 (openR s).1 with
        | error e => rw [hl] at h; cases h
        | ok r =>
          obtain ⟨ls, m⟩ := r
          rw [hl] at h
          simp only at h
          have hall := lists_len 3 _ _ _ hl
          have hg : ∀ i, (ls.getD i []).length ≤ s.length := by
            intro i
            by_cases hi : i < ls.length
            · have := hall (ls.getD i []) (by simp [List.getD, List.getElem?_eq_getElem hi])
              omega
            · simp [List.getD, List.getElem?_eq_none (Nat.le_of_not_lt hi)]
          split at h
          · injection h with h
            subst h
            exact ⟨hg 0, hg 1, hg 2⟩
          · cases h
      · simp [Pl.none]

set_option maxRecDepth 100000 in
set_option maxHeartbeats 4000000 in
theorem wk_readPools (a0 : ByteArray) (a1 : Bool) (w : World) :
    Calls Try.prog 9 #[.string a0, .bool a1] w fun e w' => e = .returned (.bool true) ∧ Below w.heap.size w w' := by
  obtain ⟨l, rfl⟩ : ∃ l : List UInt8, a0 = ⟨l.toArray⟩ := ⟨a0.data.toList, by simp⟩
  by_cases hbig : 500 < l.length
  · have hbig' : (500 : Int) < (l.length : Int) := by omega
    go_enter Try.func9, Try.ntmps9
    go_wp2_with fail
    refine (alive_any _).mono ?_
    rintro e wz ⟨rfl, bz⟩
    go_wp2
    go_ret
    exact ⟨rfl, bz⟩
  · have hbig' : ¬ (500 : Int) < (l.length : Int) := by omega
    cases a1 with
    | false =>
      have hpl := poolR_len l
      obtain ⟨⟨p, e⟩, hR⟩ : ∃ x, poolR l = x := ⟨_, rfl⟩
      rw [hR] at hpl
      simp only at hpl
      have HR := Lib.hid hR
      obtain ⟨m0, m1, m2⟩ := hpl
      clear hR
      go_enter Try.func9, Try.ntmps9
      go_wp2_with fail
      have b := Below.refl w.heap.size w
      refine (readPool_any l p e _ (by omega) HR.out).mono ?_
      rintro x w1 ⟨A0, c0, A1, c1, A2, c2, rfl, r0, r1, r2, hb1⟩
      have b1 := b.trans (hb1.mono b.size)
      have bn := newBl w1 (.cells #[.slice A0 p.codes.length c0, .slice A1 p.starts.length c1, .slice A2 p.lengths.length c2] 42)
      have p1 := Blk.new w1 42 #[.slice A0 p.codes.length c0, .slice A1 p.starts.length c1, .slice A2 p.lengths.length c2]
      go_wp2_with fail
      obtain ⟨W1, hW⟩ : ∃ W, W = w1.alloc (.cells #[.slice A0 p.codes.length c0, .slice A1 p.starts.length c1, .slice A2 p.lengths.length c2] 42) := ⟨_, rfl⟩
      rw [← hW] at bn p1 ⊢
      clear hW
      have s0 := stayR r0 bn
      have s1 := stayR r1 bn
      have s2 := stayR r2 bn
      have b2 := b1.trans (bn.mono b1.size)
      clear r0 r1 r2 bn b1
      refine (refPool_any l p e _ (by omega) HR.out).mono ?_
      rintro x w2 ⟨B0, d0, B1, d1, B2, d2, rfl, r0, r1, r2, hb2⟩
      have bm := newBl w2 (.cells #[.slice B0 p.codes.length d0, .slice B1 p.starts.length d1, .slice B2 p.lengths.length d2] 42)
      have q2 := Blk.new w2 42 #[.slice B0 p.codes.length d0, .slice B1 p.starts.length d1, .slice B2 p.lengths.length d2]
      have p3 := stayBl (stayBl p1 hb2) bm
      have b3 := (b2.trans (hb2.mono b2.size)).trans (bm.mono (by have := b2.size; have := hb2.size; omega))
      have t0 := stayR (stayR s0 hb2) bm
      have t1 := stayR (stayR s1 hb2) bm
      have t2 := stayR (stayR s2 hb2) bm
      have v0 := stayR r0 bm
      have v1 := stayR r1 bm
      have v2 := stayR r2 bm
      have k0 := p3.cell 0
      have k1 := p3.cell 1
      have k2 := p3.cell 2
      have j0 := q2.cell 0
      have j1 := q2.cell 1
      have j2 := q2.cell 2
      clear s0 s1 s2 r0 r1 r2 hb2 bm b2 p1
      go_wp2_with fail
      clear k0 k1 k2 j0 j1 j2
      obtain ⟨W2, hW⟩ : ∃ W, W = w2.alloc (.cells #[.slice B0 p.codes.length d0, .slice B1 p.starts.length d1, .slice B2 p.lengths.length d2] 42) := ⟨_, rfl⟩
      rw [← hW] at q2 p3 b3 t0 t1 t2 v0 v1 v2 ⊢
      clear hW
      refine (samePools A0 A1 A2 B0 B1 B2 _ _ _ c0 c1 c2 d0 d1 d2 p.codes p.starts p.lengths W2 t0 t1 t2 v0 v1 v2 (by omega) (by omega) (by omega)).mono ?_
      rintro x w3 ⟨rfl, hb3⟩
      have b4 := b3.trans (hb3.mono b3.size)
      go_wp2_with fail
      refine (alive_any _).mono ?_
      rintro x wz ⟨rfl, bz⟩
      go_wp2
      go_ret
      exact ⟨rfl, b4.trans (bz.mono b4.size)⟩
    | true =>
      have hpl := poolR_len (shutB l)
      have hsl := fnv_bnd l
      generalize hS : shutB l = S at hpl hsl
      have HS := Lib.hid hS
      have hS2 : S.length ≤ 504 := by omega
      clear hS hsl
      obtain ⟨⟨p, e⟩, hR⟩ : ∃ x, poolR S = x := ⟨_, rfl⟩
      rw [hR] at hpl
      simp only at hpl
      have HR := Lib.hid hR
      obtain ⟨m0, m1, m2⟩ := hpl
      clear hR
      go_enter Try.func9, Try.ntmps9
      go_wp2_with fail
      refine (refshut_any l w (by omega)).mono ?_
      rintro x w0 ⟨rfl, b⟩
      rw [HS.out]
      go_wp2_with fail
      refine (readPool_any S p e _ (by omega) HR.out).mono ?_
      rintro x w1 ⟨A0, c0, A1, c1, A2, c2, rfl, r0, r1, r2, hb1⟩
      have b1 := b.trans (hb1.mono b.size)
      have bn := newBl w1 (.cells #[.slice A0 p.codes.length c0, .slice A1 p.starts.length c1, .slice A2 p.lengths.length c2] 42)
      have p1 := Blk.new w1 42 #[.slice A0 p.codes.length c0, .slice A1 p.starts.length c1, .slice A2 p.lengths.length c2]
      go_wp2_with fail
      obtain ⟨W1, hW⟩ : ∃ W, W = w1.alloc (.cells #[.slice A0 p.codes.length c0, .slice A1 p.starts.length c1, .slice A2 p.lengths.length c2] 42) := ⟨_, rfl⟩
      rw [← hW] at bn p1 ⊢
      clear hW
      have s0 := stayR r0 bn
      have s1 := stayR r1 bn
      have s2 := stayR r2 bn
      have b2 := b1.trans (bn.mono b1.size)
      clear r0 r1 r2 bn b1
      refine (refPool_any S p e _ (by omega) HR.out).mono ?_
      rintro x w2 ⟨B0, d0, B1, d1, B2, d2, rfl, r0, r1, r2, hb2⟩
      have bm := newBl w2 (.cells #[.slice B0 p.codes.length d0, .slice B1 p.starts.length d1, .slice B2 p.lengths.length d2] 42)
      have q2 := Blk.new w2 42 #[.slice B0 p.codes.length d0, .slice B1 p.starts.length d1, .slice B2 p.lengths.length d2]
      have p3 := stayBl (stayBl p1 hb2) bm
      have b3 := (b2.trans (hb2.mono b2.size)).trans (bm.mono (by have := b2.size; have := hb2.size; omega))
      have t0 := stayR (stayR s0 hb2) bm
      have t1 := stayR (stayR s1 hb2) bm
      have t2 := stayR (stayR s2 hb2) bm
      have v0 := stayR r0 bm
      have v1 := stayR r1 bm
      have v2 := stayR r2 bm
      have k0 := p3.cell 0
      have k1 := p3.cell 1
      have k2 := p3.cell 2
      have j0 := q2.cell 0
      have j1 := q2.cell 1
      have j2 := q2.cell 2
      clear s0 s1 s2 r0 r1 r2 hb2 bm b2 p1
      go_wp2_with fail
      clear k0 k1 k2 j0 j1 j2
      obtain ⟨W2, hW⟩ : ∃ W, W = w2.alloc (.cells #[.slice B0 p.codes.length d0, .slice B1 p.starts.length d1, .slice B2 p.lengths.length d2] 42) := ⟨_, rfl⟩
      rw [← hW] at q2 p3 b3 t0 t1 t2 v0 v1 v2 ⊢
      clear hW
      refine (samePools A0 A1 A2 B0 B1 B2 _ _ _ c0 c1 c2 d0 d1 d2 p.codes p.starts p.lengths W2 t0 t1 t2 v0 v1 v2 (by omega) (by omega) (by omega)).mono ?_
      rintro x w3 ⟨rfl, hb3⟩
      have b4 := b3.trans (hb3.mono b3.size)
      go_wp2_with fail
      refine (alive_any _).mono ?_
      rintro x wz ⟨rfl, bz⟩
      go_wp2
      go_ret
      exact ⟨rfl, b4.trans (bz.mono b4.size)⟩
end Go.Proofs.Ythpngcfggnhdjaa
