/- awake of the statements about layer 4. -/
import Derived.Test.YtpkikgdcmhbehaaDoorU16U
import Derived.Test.YtpkikgdcmhbehaaDoorU16B
namespace Go.Proofs.YtpkikgdcmhbehaaDoor
open Go.RowKit

theorem ex1 : encR [128512] 1 = ([55357, 56832], 0, 0) := by decide +kernel
theorem ex2 : decR [55357, 56832, 56832] 2 = ([128512, 65533], 0, 0) := by decide +kernel
theorem ex3 : bytR [65] true true = ([254, 255, 0, 65], 0, 0) := by decide +kernel
theorem ex4 : untR [255, 254, 65, 0] true = ([65], false, 0, 0) := by decide +kernel

/-- a call that makes memory alone: what is known of a block, of a row stays -/
theorem Blk.stay {w w' : World} {g t : Nat} {cs : Array Value} (h : Blk w g t cs) (hb : Below w.heap.size w w') : Blk w' g t cs := h.below hb h.lt

theorem Reads.stay {w w' : World} {A : Option Addr} {n : Nat} {xs : List Value} (h : Reads w w.heap.size 1 A n xs) (hb : Below w.heap.size w w') : Reads w' w'.heap.size 1 A n xs := (h.below hb).more hb.size
theorem Reads.up {w : World} {B : Nat} {A : Option Addr} {n : Nat} {xs : List Value} (h : Reads w B 1 A n xs) (hb : B ≤ w.heap.size) : Reads w w.heap.size 1 A n xs := h.more hb
theorem reads_newE (w : World) (cs : Array Value) (e : TypeId) (xs : List Value) (n : Nat) (hn : w.heap.size = n) (h : cs.toList = xs) :
    Reads (w.alloc (.cells cs e)) (n + 1) 1 (some ⟨n, 0, none⟩) xs.length xs := by subst hn; exact reads_new w cs e xs h
theorem reads_newH (w : World) (cs : Array Value) (e : TypeId) (xs : List Value) (n : Nat) (hn : w.heap.size = n) (h : cs.toList = xs) :
    Reads (w.alloc (.cells cs e)) (w.alloc (.cells cs e)).heap.size 1 (some ⟨n, 0, none⟩) xs.length xs := (reads_newE w cs e xs n hn h).up (by simp; omega)
theorem below_new (w : World) (o : Obj) : Below w.heap.size w (w.alloc o) := (Below.refl _ _).alloc (Nat.le_refl _) _

set_option maxRecDepth 100000 in
set_option maxHeartbeats 2000000 in
theorem awake_any (w : World) (hd : Dig w) : Calls Tryd.prog 10 #[] w fun e w' => e = .returned (.bool true) ∧ Below w.heap.size w w' := by
  have Hd := Lib.hid hd
  clear hd
  have flt0 : ∀ W : World, Blk (W.alloc (.cells #[.int .i64 0, .int .i64 0] 26)) W.heap.size 26 #[.int .i64 0, .int .i64 0] := fun W => Blk.new W _ _
  have Flt := Lib.hid flt0
  clear flt0
  go_enter Tryd.func10, Tryd.ntmps10
  go_wp2_with fail
  have b0 : Below w.heap.size w (w.alloc (.cells #[.int .i64 128512] 3)) := (Below.refl _ _).alloc (Nat.le_refl _) _
  refine (encode_any (w.heap.size + 1) 1 1 _ [128512] 1 _ (reads_new w #[.int .i64 128512] 3 ([128512].map iv) rfl) (by simp) (by omega) (Hd.out.below b0)).mono ?_
  rintro e w1 ⟨v1, rfl, ho1, hb1⟩
  rw [ex1] at ho1 ⊢
  obtain ⟨A1, c1, rfl, _, hr1⟩ := val_of_own ho1
  have b1 : Below w.heap.size w w1 := b0.trans (hb1.mono (by simp))
  clear ho1
  go_wp2_with fail
  have f1 := Flt.out w1
  have bn1 := below_new w1 (.cells #[.int .i64 0, .int .i64 0] 26)
  obtain ⟨W1, hW1⟩ : ∃ W, W = w1.alloc (.cells #[.int .i64 0, .int .i64 0] 26) := ⟨_, rfl⟩
  have hs1 : W1.heap.size = w1.heap.size + 1 := by rw [hW1]; simp
  rw [← hW1] at f1 bn1 ⊢
  have r1 := hr1.stay bn1
  have b1' := b1.trans (bn1.mono b1.size)
  have Hs1 := Lib.hid hs1
  have hd1 := Hd.out.below b1'
  clear hW1 hs1 hr1
  have bm1 := below_new W1 (.cells #[.int .i64 55357, .int .i64 56832, .int .i64 56832] 3)
  refine (decode_any (w1.heap.size + 1 + 1) 3 3 _ [55357, 56832, 56832] 2 _ (reads_newE W1 #[.int .i64 55357, .int .i64 56832, .int .i64 56832] 3 ([55357, 56832, 56832].map iv) _ Hs1.out rfl) (by simp [Hs1.out]) (by omega) (hd1.below bm1)).mono ?_
  rintro e w2 ⟨v2, rfl, ho2, hb2⟩
  rw [ex2] at ho2 ⊢
  obtain ⟨A2, c2, rfl, _, hr2⟩ := val_of_own ho2
  have bx2 : Below W1.heap.size W1 w2 := bm1.trans (hb2.mono (by simp))
  have b2 := b1'.trans (bx2.mono b1'.size)
  have f12 := f1.stay bx2
  have r12 := r1.stay bx2
  clear ho2 f1 r1 hb2 hd1
  go_wp2_with fail
  have f2 := Flt.out w2
  have bn2 := below_new w2 (.cells #[.int .i64 0, .int .i64 0] 26)
  obtain ⟨W2, hW2⟩ : ∃ W, W = w2.alloc (.cells #[.int .i64 0, .int .i64 0] 26) := ⟨_, rfl⟩
  have hs2 : W2.heap.size = w2.heap.size + 1 := by rw [hW2]; simp
  rw [← hW2] at f2 bn2 ⊢
  have r2 := hr2.stay bn2
  have f13 := f12.stay bn2
  have r13 := r12.stay bn2
  have b2' := b2.trans (bn2.mono b2.size)
  have Hs2 := Lib.hid hs2
  clear hW2 hs2 hr2 f12 r12
  have bm2 := below_new W2 (.cells #[.int .i64 65] 3)
  refine (bytes_any (w2.heap.size + 1 + 1) 1 1 _ [65] true true _ (reads_newE W2 #[.int .i64 65] 3 ([65].map iv) _ Hs2.out rfl) (by simp [Hs2.out]) (by omega)).mono ?_
  rintro e w3 ⟨rfl, hb3⟩
  rw [ex3]
  have bx3 : Below W2.heap.size W2 w3 := bm2.trans (hb3.mono (by simp))
  have b3 := b2'.trans (bx3.mono b2'.size)
  have f14 := f13.stay bx3
  have r14 := r13.stay bx3
  have f24 := f2.stay bx3
  have r24 := r2.stay bx3
  clear f13 r13 f2 r2 hb3
  go_wp2_with fail
  have f3 := Flt.out w3
  have bn3 := below_new w3 (.cells #[.int .i64 0, .int .i64 0] 26)
  obtain ⟨W3, hW3⟩ : ∃ W, W = w3.alloc (.cells #[.int .i64 0, .int .i64 0] 26) := ⟨_, rfl⟩
  rw [← hW3] at f3 bn3 ⊢
  have f15 := f14.stay bn3
  have r15 := r14.stay bn3
  have f25 := f24.stay bn3
  have r25 := r24.stay bn3
  have b3' := b3.trans (bn3.mono b3.size)
  clear hW3 f14 r14 f24 r24
  refine (units_any [255, 254, 65, 0] true W3 (by simp)).mono ?_
  rintro e w4 ⟨v4, rfl, ho4, hb4⟩
  rw [ex4] at ho4 ⊢
  obtain ⟨A4, c4, rfl, _, hr4⟩ := val_of_own ho4
  have b4 := b3'.trans (hb4.mono b3'.size)
  have f16 := f15.stay hb4
  have r16 := r15.stay hb4
  have f26 := f25.stay hb4
  have r26 := r25.stay hb4
  have f36 := f3.stay hb4
  clear ho4 f15 r15 f25 r25 f3
  go_wp2_with fail
  have f4 := Flt.out w4
  have bn4 := below_new w4 (.cells #[.int .i64 0, .int .i64 0] 26)
  obtain ⟨W4, hW4⟩ : ∃ W, W = w4.alloc (.cells #[.int .i64 0, .int .i64 0] 26) := ⟨_, rfl⟩
  have hs4 : W4.heap.size = w4.heap.size + 1 := by rw [hW4]; simp
  rw [← hW4] at f4 bn4 ⊢
  have f17 := f16.stay bn4
  have r17 := r16.stay bn4
  have f27 := f26.stay bn4
  have r27 := r26.stay bn4
  have f37 := f36.stay bn4
  have r47 := hr4.stay bn4
  have b4' := b4.trans (bn4.mono b4.size)
  have Hs4 := Lib.hid hs4
  clear hW4 hs4 f16 r16 f26 r26 f36 hr4
  have bm4 := below_new W4 (.cells #[.int .i64 55357, .int .i64 56832] 3)
  refine (equal_any _ 2 c1 2 2 A1 _ [55357, 56832] [55357, 56832] _ (r17.stay bm4) (reads_newH W4 #[.int .i64 55357, .int .i64 56832] 3 ([55357, 56832].map iv) _ Hs4.out rfl) (by omega)).mono ?_
  rintro e w5 ⟨rfl, q5, rfl⟩
  rw [show eqB [55357, 56832] [55357, 56832] = true from rfl]
  have bx5 := below_drewN bm4 q5
  have b5 := b4'.trans (bx5.mono b4'.size)
  have d17 := (f17.stay bx5).cell 0
  have f28 := f27.stay bx5
  have r28 := r27.stay bx5
  have f38 := f37.stay bx5
  have r48 := r47.stay bx5
  have f48 := f4.stay bx5
  clear f17 f27 r27 f37 r47 f4 r17
  generalize ((W4.alloc (.cells #[.int .i64 55357, .int .i64 56832] 3)).drewN q5) = W5 at *
  go_wp2_with fail
  have bm5 := below_new W5 (.cells #[.int .i64 128512, .int .i64 65533] 3)
  refine (equal_any _ 2 c2 2 2 A2 _ [128512, 65533] [128512, 65533] _ (r28.stay bm5) (reads_newH W5 #[.int .i64 128512, .int .i64 65533] 3 ([128512, 65533].map iv) _ rfl rfl) (by omega)).mono ?_
  rintro e w6 ⟨rfl, q6, rfl⟩
  rw [show eqB [128512, 65533] [128512, 65533] = true from rfl]
  have bx6 := below_drewN bm5 q6
  have b6 := b5.trans (bx6.mono b5.size)
  have d28 := (f28.stay bx6).cell 0
  have d38 := (f38.stay bx6).cell 0
  have r49 := r48.stay bx6
  have f49 := f48.stay bx6
  clear f28 r28 f38 r48 f48
  generalize ((W5.alloc (.cells #[.int .i64 128512, .int .i64 65533] 3)).drewN q6) = W6 at *
  go_wp2_with fail
  have bm6 := below_new W6 (.cells #[.int .i64 65] 3)
  refine (equal_any _ 1 c4 1 1 A4 _ [65] [65] _ (r49.stay bm6) (reads_newH W6 #[.int .i64 65] 3 ([65].map iv) _ rfl rfl) (by omega)).mono ?_
  rintro e w7 ⟨rfl, q7, rfl⟩
  rw [show eqB [65] [65] = true from rfl]
  have bx7 := below_drewN bm6 q7
  have d49 := (f49.stay bx7).cell 0
  go_wp2
  go_ret
  exact ⟨rfl, b6.trans (bx7.mono b6.size)⟩
end Go.Proofs.YtpkikgdcmhbehaaDoor
