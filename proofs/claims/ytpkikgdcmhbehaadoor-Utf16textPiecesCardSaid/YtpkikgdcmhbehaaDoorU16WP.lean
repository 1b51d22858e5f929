/- Utf16textPieces: the plain law of a cut, and the walk. -/
import Derived.Test.YtpkikgdcmhbehaaDoorU16W
import Derived.Test.YtpkikgdcmhbehaaDoorR16B
namespace Go.Proofs.YtpkikgdcmhbehaaDoor
open Go.RowKit

theorem dec_cut (p : Int) (hp : p ≠ 1) (y b : List Int) (hb : ∀ i, dec16 p i y = .ok b) : ∀ (n : Nat) (x : List Int), x.length ≤ n →
    (∀ u v, x.getLast? = some u → y.head? = some v → ¬ (high u = true ∧ low v = true)) → ∃ a, (∀ i, dec16 p i x = .ok a) ∧ ∀ i, dec16 p i (x ++ y) = .ok (a ++ b) := by
  intro n
  induction n with
  | zero =>
    intro x hx _
    obtain rfl : x = [] := List.eq_nil_of_length_eq_zero (by omega)
    exact ⟨[], fun i => by simp [dec16], fun i => by simpa using hb i⟩
  | succ n ih =>
    intro x hx hc
    cases x with
    | nil => exact ⟨[], fun i => by simp [dec16], fun i => by simpa using hb i⟩
    | cons u t =>
      have hl : t.length ≤ n := by simpa using hx
      have hct : ∀ u' v, t.getLast? = some u' → y.head? = some v → ¬ (high u' = true ∧ low v = true) := by
        intro u' v h1 h2
        exact hc u' v (by cases t with
          | nil => simp at h1
          | cons z t => rw [List.getLast?_cons_cons]; exact h1) h2
      cases hbm : bmp u with
      | true =>
        obtain ⟨a, h1, h2⟩ := ih t hl hct
        exact ⟨u :: a, fun i => by rw [dec_bmp hbm, h1]; rfl, fun i => by rw [List.cons_append, dec_bmp hbm, h2]; rfl⟩
      | false =>
        cases t with
        | nil =>
          obtain ⟨a, h1, h2⟩ := ih [] hl hct
          obtain rfl : a = [] := by have := h1 0; simp [dec16] at this; exact this
          refine ⟨inst16 u p, fun i => ?_, fun i => ?_⟩
          · rw [dec_bad hbm (by simp), if_neg hp, h1]; simp [pre]
          · rw [List.cons_append, List.nil_append, dec_bad hbm (by intro v hv; exact hc u v (by simp) hv), if_neg hp, hb]; rfl
        | cons v t =>
          by_cases hj : high u = true ∧ low v = true
          · have hc2 : ∀ u' v', t.getLast? = some u' → y.head? = some v' → ¬ (high u' = true ∧ low v' = true) := by
              intro u' v' h1 h2
              exact hct u' v' (by cases t with
                | nil => simp at h1
                | cons z t => rw [List.getLast?_cons_cons]; exact h1) h2
            obtain ⟨a, h1, h2⟩ := ih t (by simp at hl; omega) hc2
            exact ⟨jn u v :: a, fun i => by rw [dec_pair hbm hj, h1]; rfl, fun i => by rw [List.cons_append, List.cons_append, dec_pair hbm hj, h2]; rfl⟩
          · obtain ⟨a, h1, h2⟩ := ih (v :: t) hl hct
            refine ⟨inst16 u p ++ a, fun i => ?_, fun i => ?_⟩
            · rw [dec_bad hbm (by intro v' hv; simp at hv; subst hv; exact hj), if_neg hp, h1]; rfl
            · rw [List.cons_append, dec_bad hbm (by intro v' hv; simp at hv; subst hv; exact hj), if_neg hp, h2]; simp [pre]
theorem dec_two (p : Int) (hp : p ≠ 1) (hk : knownB p = true) (x y : List Int) (hc : ∀ u v, x.getLast? = some u → y.head? = some v → ¬ (high u = true ∧ low v = true)) :
    ∃ a b, decR x p = (a, 0, 0) ∧ decR y p = (b, 0, 0) ∧ decR (x ++ y) p = (a ++ b, 0, 0) ∧ a.length ≤ 10 * x.length ∧ b.length ≤ 10 * y.length := by
  obtain ⟨b, hb1, _⟩ := dec_cut p hp [] [] (fun i => by simp [dec16]) y.length y (Nat.le_refl _) (by simp)
  obtain ⟨a, ha1, ha2⟩ := dec_cut p hp y b hb1 x.length x (Nat.le_refl _) hc
  exact ⟨a, b, by rw [decR_known x p hk, ha1]; rfl, by rw [decR_known y p hk, hb1]; rfl, by rw [decR_known _ p hk, ha2]; rfl, dec_len p x.length x 0 a (Nat.le_refl _) (ha1 0), dec_len p y.length y 0 b (Nat.le_refl _) (hb1 0)⟩
theorem beg_cut {l : List Int} {k : Nat} (h0 : 0 < k) (hk : k ≤ l.length) (hb : k < l.length → (begB (l.drop (k - 1))).2.1 ≠ 2) :
    ∀ u v, (l.take k).getLast? = some u → (l.drop k).head? = some v → ¬ (high u = true ∧ low v = true) := by
  intro u v h1 h2 hj
  have hlt : k < l.length := by
    rcases Nat.lt_or_ge k l.length with h | h
    · exact h
    · rw [List.drop_of_length_le h] at h2; simp at h2
  apply hb hlt
  rw [List.getLast?_eq_getElem?, List.length_take, Nat.min_eq_left hk, List.getElem?_take_of_lt (by omega), List.getElem?_eq_getElem (by omega)] at h1
  rw [List.head?_drop, List.getElem?_eq_getElem hlt] at h2
  injection h1 with h1
  injection h2 with h2
  have e : k - 1 + 1 = k := by omega
  rw [List.drop_eq_getElem_cons (by omega), List.drop_eq_getElem_cons (by omega), h1]
  simp only [e, h2, begB]
  rw [if_pos hj]
theorem Reads.head {w : World} {B : Nat} {A : Option Addr} {n : Nat} {l : List Int} (h : Reads w B 1 A n (l.map iv)) {k : Nat} (hk : k ≤ n) : Reads w B 1 A k ((l.take k).map iv) := by
  have hl : l.length = n := by have := h.1; simpa using this
  refine ⟨by simp; omega, fun h0 => ?_⟩
  obtain ⟨ad, rfl, hb, hc⟩ := h.2 (by omega)
  refine ⟨ad, rfl, hb, fun j u hj => hc j u ?_⟩
  rw [List.map_take] at hj
  have hjk : j < k := by
    have := (List.getElem?_eq_some_iff.1 hj).1
    simp at this; omega
  rwa [List.getElem?_take_of_lt hjk] at hj

set_option maxRecDepth 100000 in
set_option maxHeartbeats 4000000 in
theorem wk_pieces (A : Option Addr) (n cap : Nat) (l : List Int) (at_ p : Int) (w : World) (hr : Reads w w.heap.size 1 A n (l.map iv)) (hc : n ≤ cap) (hd : Dig w) :
    Calls Tryd.prog 8 #[.slice A n cap, .int .i64 at_, .int .i64 p] w fun e w' => e = .returned (.bool true) ∧ Below w.heap.size w w' := by
  have Hd := Lib.hid hd
  clear hd
  by_cases hbig : 300 < n
  · have hbig' : (300 : Int) < (n : Int) := by omega
    go_enter Tryd.func8, Tryd.ntmps8
    go_wp2_with fail
    refine (awake_any _ (Hd.out)).mono ?_
    rintro e wz ⟨rfl, bz⟩
    go_wp2
    go_ret
    exact ⟨rfl, bz⟩
  have hbig' : ¬ (300 : Int) < (n : Int) := by omega
  by_cases ha0 : at_ < 0
  · go_enter Tryd.func8, Tryd.ntmps8
    go_wp2_with fail
    refine (awake_any _ (Hd.out)).mono ?_
    rintro e wz ⟨rfl, bz⟩
    go_wp2
    go_ret
    exact ⟨rfl, bz⟩
  by_cases han : (n : Int) < at_
  · go_enter Tryd.func8, Tryd.ntmps8
    go_wp2_with fail
    refine (awake_any _ (Hd.out)).mono ?_
    rintro e wz ⟨rfl, bz⟩
    go_wp2
    go_ret
    exact ⟨rfl, bz⟩
  by_cases hp2 : p < 2
  · go_enter Tryd.func8, Tryd.ntmps8
    go_wp2_with fail
    refine (awake_any _ (Hd.out)).mono ?_
    rintro e wz ⟨rfl, bz⟩
    go_wp2
    go_ret
    exact ⟨rfl, bz⟩
  by_cases hp4 : 4 < p
  · go_enter Tryd.func8, Tryd.ntmps8
    go_wp2_with fail
    refine (awake_any _ (Hd.out)).mono ?_
    rintro e wz ⟨rfl, bz⟩
    go_wp2
    go_ret
    exact ⟨rfl, bz⟩
  obtain ⟨k, rfl⟩ : ∃ k : Nat, at_ = (k : Int) := ⟨at_.toNat, by omega⟩
  have hkn : k ≤ n := by omega
  have hln := len_of hr
  have hkk : knownB p = true := by simp [knownB]; omega
  have hcutr := hr.cut (k := k) (cap := cap) hkn hc
  have hheadr := hr.head hkn
  rw [Nat.mul_one, ← List.map_drop] at hcutr
  obtain ⟨i0, hi, hz0, hz1, hz2⟩ := info_parts Tryd.info3
  by_cases hk0 : k = 0
  · have hcon : ∀ u v, (l.take k).getLast? = some u → (l.drop k).head? = some v → ¬ (high u = true ∧ low v = true) := by subst hk0; simp
    have hk0' : ¬ (0 : Int) < (k : Int) := by omega
    clear hk0
    by_cases hcap : cap = k
    · rw [if_pos hcap] at hcutr
      have hcap2 := hcap.symm
      subst hcap2
      have hcap3 : k = n := by omega
      subst hcap3
      obtain ⟨a, b, hA, hB, hC, hal, hbl⟩ := dec_two p (by omega) hkk (l.take k) (l.drop k) hcon
      rw [List.take_append_drop] at hC
      rw [List.length_take] at hal
      rw [List.length_drop] at hbl
      have HA := Lib.hid hA
      have HB := Lib.hid hB
      have HC := Lib.hid hC
      have hal2 : a.length ≤ 3000 := by omega
      have hbl2 : b.length ≤ 3000 := by omega
      clear hA hB hC hal hbl hln hkk hcon
      rw [Nat.sub_self] at hcutr
      clear hcap hkn hc
      go_enter Tryd.func8, Tryd.ntmps8
      go_wp2_with fail
      refine (decodeH A k _ (l.take k) a p 0 0 w hheadr (by omega) Hd.out HA.out).mono ?_
      rintro e w2 ⟨A2, c2, rfl, hr2, hb2⟩
      have f1 := hr.stay hb2
      have f2 := hheadr.stay hb2
      have f3 := hcutr.stay hb2
      have b4 := hb2
      clear hr hheadr hcutr
      go_wp2_with fail
      have f7 := Blk.new w2 26 #[.int .i64 0, .int .i64 0]
      have bx6 := below_new w2 (.cells #[.int .i64 0, .int .i64 0] 26)
      obtain ⟨W5, hW8⟩ : ∃ W, W = w2.alloc (.cells #[.int .i64 0, .int .i64 0] 26) := ⟨_, rfl⟩
      rw [← hW8] at f7 bx6 ⊢
      clear hW8
      have f10 := f1.stay bx6
      have f11 := f2.stay bx6
      have f12 := f3.stay bx6
      have f13 := hr2.stay bx6
      have b14 := b4.trans (bx6.mono b4.size)
      clear b4
      clear f1 f2 f3 hr2
      refine (decodeH _ 0 _ (l.drop k) b p 0 0 _ f12 (by omega) (Hd.out.below b14) HB.out).mono ?_
      rintro e w3 ⟨A3, c3, rfl, hr3, hb3⟩
      have f15 := f10.stay hb3
      have f16 := f11.stay hb3
      have f17 := f12.stay hb3
      have f18 := f13.stay hb3
      have f19 := f7.stay hb3
      have b20 := b14.trans (hb3.mono b14.size)
      clear b14
      clear f10 f11 f12 f13 f7
      go_wp2_with fail
      have f23 := Blk.new w3 26 #[.int .i64 0, .int .i64 0]
      have bx22 := below_new w3 (.cells #[.int .i64 0, .int .i64 0] 26)
      obtain ⟨W21, hW24⟩ : ∃ W, W = w3.alloc (.cells #[.int .i64 0, .int .i64 0] 26) := ⟨_, rfl⟩
      rw [← hW24] at f23 bx22 ⊢
      clear hW24
      have f26 := f15.stay bx22
      have f27 := f16.stay bx22
      have f28 := f17.stay bx22
      have f29 := f18.stay bx22
      have f30 := f19.stay bx22
      have f31 := hr3.stay bx22
      have b32 := b20.trans (bx22.mono b20.size)
      clear b20
      clear f15 f16 f17 f18 f19 hr3
      refine (decodeH A k k l (a ++ b) p 0 0 _ f26 (by omega) (Hd.out.below b32) HC.out).mono ?_
      rintro e w4 ⟨A4, c4, rfl, hr4, hb4⟩
      have f33 := f26.stay hb4
      have f34 := f27.stay hb4
      have f35 := f28.stay hb4
      have f36 := f29.stay hb4
      have f37 := f30.stay hb4
      have f38 := f31.stay hb4
      have f39 := f23.stay hb4
      have b40 := b32.trans (hb4.mono b32.size)
      clear b32
      clear f26 f27 f28 f29 f30 f31 f23
      obtain ⟨W, hW⟩ : ∃ W, W = w4.alloc (.cells #[.int .i64 0, .int .i64 0] 26) := ⟨_, rfl⟩
      have bW : Below w4.heap.size w4 W := by rw [hW]; exact below_new w4 (.cells #[.int .i64 0, .int .i64 0] 26)
      have f41 := f33.stay bW
      have f42 := f34.stay bW
      have f43 := f35.stay bW
      have f44 := f36.stay bW
      have f45 := f37.stay bW
      have f46 := f38.stay bW
      have f47 := f39.stay bW
      have f48 := hr4.stay bW
      have b49 := b40.trans (bW.mono b40.size)
      clear b40
      clear f33 f34 f35 f36 f37 f38 f39 hr4
      go_wp2_with (at_builtin; first | (rw [← hW]; refine wpList_appR rfl (.tmp 81) (.tmp 82) 22 rfl Tryd.underlying22 hi hz0 hz1 hz2 rfl (by omega) W (.slice none 0 0) 0 [] rfl (World.ownsRow_nil _ _ _ _) rfl f44 (iv_one _) (by omega) (Nat.le_refl W.heap.size) ?_; clear hW; intro v3 w5 ho5 hB5 _) | (refine wpList_appR rfl (.tmp 84) (.tmp 85) 22 rfl Tryd.underlying22 hi hz0 hz1 hz2 rfl (by omega) w5 v3 _ _ rfl ho5 rfl (f46.below hB5) (iv_one _) (by omega) hB5.size ?_; intro v6 w6 ho6 hB6 _))
      obtain ⟨A6, c6, rfl, _, hr6⟩ := val_of_own ho6
      have q4 := (f48.below (hB5.trans hB6)).more (hB5.trans hB6).size
      rw [List.nil_append, ← List.map_append] at hr6
      have bF := b49.trans ((hB5.trans hB6).mono b49.size)
      rw [List.length_append] at q4
      go_wp2_with fail
      refine (equalH _ _ _ _ _ _ (a ++ b) (a ++ b) _ hr6 q4 (by omega)).mono ?_
      rintro e w7 ⟨rfl, hb7⟩
      rw [eqB_self]
      have bG := bF.trans (hb7.mono bF.size)
      go_wp2_with fail
      refine (awake_any _ (Hd.out.below bG)).mono ?_
      rintro e wz ⟨rfl, bz⟩
      go_wp2
      go_ret
      exact ⟨rfl, bG.trans (bz.mono bG.size)⟩
    · rw [if_neg hcap] at hcutr
      obtain ⟨a, b, hA, hB, hC, hal, hbl⟩ := dec_two p (by omega) hkk (l.take k) (l.drop k) hcon
      rw [List.take_append_drop] at hC
      rw [List.length_take] at hal
      rw [List.length_drop] at hbl
      have HA := Lib.hid hA
      have HB := Lib.hid hB
      have HC := Lib.hid hC
      have hal2 : a.length ≤ 3000 := by omega
      have hbl2 : b.length ≤ 3000 := by omega
      clear hA hB hC hal hbl hln hkk hcon
      go_enter Tryd.func8, Tryd.ntmps8
      go_wp2_with fail
      refine (decodeH A k _ (l.take k) a p 0 0 w hheadr (by omega) Hd.out HA.out).mono ?_
      rintro e w2 ⟨A2, c2, rfl, hr2, hb2⟩
      have f1 := hr.stay hb2
      have f2 := hheadr.stay hb2
      have f3 := hcutr.stay hb2
      have b4 := hb2
      clear hr hheadr hcutr
      go_wp2_with fail
      have f7 := Blk.new w2 26 #[.int .i64 0, .int .i64 0]
      have bx6 := below_new w2 (.cells #[.int .i64 0, .int .i64 0] 26)
      obtain ⟨W5, hW8⟩ : ∃ W, W = w2.alloc (.cells #[.int .i64 0, .int .i64 0] 26) := ⟨_, rfl⟩
      rw [← hW8] at f7 bx6 ⊢
      clear hW8
      have f10 := f1.stay bx6
      have f11 := f2.stay bx6
      have f12 := f3.stay bx6
      have f13 := hr2.stay bx6
      have b14 := b4.trans (bx6.mono b4.size)
      clear b4
      clear f1 f2 f3 hr2
      refine (decodeH _ (n - k) _ (l.drop k) b p 0 0 _ f12 (by omega) (Hd.out.below b14) HB.out).mono ?_
      rintro e w3 ⟨A3, c3, rfl, hr3, hb3⟩
      have f15 := f10.stay hb3
      have f16 := f11.stay hb3
      have f17 := f12.stay hb3
      have f18 := f13.stay hb3
      have f19 := f7.stay hb3
      have b20 := b14.trans (hb3.mono b14.size)
      clear b14
      clear f10 f11 f12 f13 f7
      go_wp2_with fail
      have f23 := Blk.new w3 26 #[.int .i64 0, .int .i64 0]
      have bx22 := below_new w3 (.cells #[.int .i64 0, .int .i64 0] 26)
      obtain ⟨W21, hW24⟩ : ∃ W, W = w3.alloc (.cells #[.int .i64 0, .int .i64 0] 26) := ⟨_, rfl⟩
      rw [← hW24] at f23 bx22 ⊢
      clear hW24
      have f26 := f15.stay bx22
      have f27 := f16.stay bx22
      have f28 := f17.stay bx22
      have f29 := f18.stay bx22
      have f30 := f19.stay bx22
      have f31 := hr3.stay bx22
      have b32 := b20.trans (bx22.mono b20.size)
      clear b20
      clear f15 f16 f17 f18 f19 hr3
      refine (decodeH A n cap l (a ++ b) p 0 0 _ f26 (by omega) (Hd.out.below b32) HC.out).mono ?_
      rintro e w4 ⟨A4, c4, rfl, hr4, hb4⟩
      have f33 := f26.stay hb4
      have f34 := f27.stay hb4
      have f35 := f28.stay hb4
      have f36 := f29.stay hb4
      have f37 := f30.stay hb4
      have f38 := f31.stay hb4
      have f39 := f23.stay hb4
      have b40 := b32.trans (hb4.mono b32.size)
      clear b32
      clear f26 f27 f28 f29 f30 f31 f23
      obtain ⟨W, hW⟩ : ∃ W, W = w4.alloc (.cells #[.int .i64 0, .int .i64 0] 26) := ⟨_, rfl⟩
      have bW : Below w4.heap.size w4 W := by rw [hW]; exact below_new w4 (.cells #[.int .i64 0, .int .i64 0] 26)
      have f41 := f33.stay bW
      have f42 := f34.stay bW
      have f43 := f35.stay bW
      have f44 := f36.stay bW
      have f45 := f37.stay bW
      have f46 := f38.stay bW
      have f47 := f39.stay bW
      have f48 := hr4.stay bW
      have b49 := b40.trans (bW.mono b40.size)
      clear b40
      clear f33 f34 f35 f36 f37 f38 f39 hr4
      go_wp2_with (at_builtin; first | (rw [← hW]; refine wpList_appR rfl (.tmp 81) (.tmp 82) 22 rfl Tryd.underlying22 hi hz0 hz1 hz2 rfl (by omega) W (.slice none 0 0) 0 [] rfl (World.ownsRow_nil _ _ _ _) rfl f44 (iv_one _) (by omega) (Nat.le_refl W.heap.size) ?_; clear hW; intro v3 w5 ho5 hB5 _) | (refine wpList_appR rfl (.tmp 84) (.tmp 85) 22 rfl Tryd.underlying22 hi hz0 hz1 hz2 rfl (by omega) w5 v3 _ _ rfl ho5 rfl (f46.below hB5) (iv_one _) (by omega) hB5.size ?_; intro v6 w6 ho6 hB6 _))
      obtain ⟨A6, c6, rfl, _, hr6⟩ := val_of_own ho6
      have q4 := (f48.below (hB5.trans hB6)).more (hB5.trans hB6).size
      rw [List.nil_append, ← List.map_append] at hr6
      have bF := b49.trans ((hB5.trans hB6).mono b49.size)
      rw [List.length_append] at q4
      go_wp2_with fail
      refine (equalH _ _ _ _ _ _ (a ++ b) (a ++ b) _ hr6 q4 (by omega)).mono ?_
      rintro e w7 ⟨rfl, hb7⟩
      rw [eqB_self]
      have bG := bF.trans (hb7.mono bF.size)
      go_wp2_with fail
      refine (awake_any _ (Hd.out.below bG)).mono ?_
      rintro e wz ⟨rfl, bz⟩
      go_wp2
      go_ret
      exact ⟨rfl, bG.trans (bz.mono bG.size)⟩
  have hk1 : (0 : Int) < (k : Int) := by omega
  by_cases hkn2 : k = n
  · have hcon := beg_cut (l := l) (k := k) (by omega) (by omega) (fun h => absurd h (by omega))
    have hkn3 : ¬ (k : Int) < (n : Int) := by omega
    clear hk0 hkn2
    by_cases hcap : cap = k
    · rw [if_pos hcap] at hcutr
      have hcap2 := hcap.symm
      subst hcap2
      have hcap3 : k = n := by omega
      subst hcap3
      obtain ⟨a, b, hA, hB, hC, hal, hbl⟩ := dec_two p (by omega) hkk (l.take k) (l.drop k) hcon
      rw [List.take_append_drop] at hC
      rw [List.length_take] at hal
      rw [List.length_drop] at hbl
      have HA := Lib.hid hA
      have HB := Lib.hid hB
      have HC := Lib.hid hC
      have hal2 : a.length ≤ 3000 := by omega
      have hbl2 : b.length ≤ 3000 := by omega
      clear hA hB hC hal hbl hln hkk hcon
      rw [Nat.sub_self] at hcutr
      clear hcap hkn hc
      go_enter Tryd.func8, Tryd.ntmps8
      go_wp2_with fail
      refine (decodeH A k _ (l.take k) a p 0 0 w hheadr (by omega) Hd.out HA.out).mono ?_
      rintro e w2 ⟨A2, c2, rfl, hr2, hb2⟩
      have f1 := hr.stay hb2
      have f2 := hheadr.stay hb2
      have f3 := hcutr.stay hb2
      have b4 := hb2
      clear hr hheadr hcutr
      go_wp2_with fail
      have f7 := Blk.new w2 26 #[.int .i64 0, .int .i64 0]
      have bx6 := below_new w2 (.cells #[.int .i64 0, .int .i64 0] 26)
      obtain ⟨W5, hW8⟩ : ∃ W, W = w2.alloc (.cells #[.int .i64 0, .int .i64 0] 26) := ⟨_, rfl⟩
      rw [← hW8] at f7 bx6 ⊢
      clear hW8
      have f10 := f1.stay bx6
      have f11 := f2.stay bx6
      have f12 := f3.stay bx6
      have f13 := hr2.stay bx6
      have b14 := b4.trans (bx6.mono b4.size)
      clear b4
      clear f1 f2 f3 hr2
      refine (decodeH _ 0 _ (l.drop k) b p 0 0 _ f12 (by omega) (Hd.out.below b14) HB.out).mono ?_
      rintro e w3 ⟨A3, c3, rfl, hr3, hb3⟩
      have f15 := f10.stay hb3
      have f16 := f11.stay hb3
      have f17 := f12.stay hb3
      have f18 := f13.stay hb3
      have f19 := f7.stay hb3
      have b20 := b14.trans (hb3.mono b14.size)
      clear b14
      clear f10 f11 f12 f13 f7
      go_wp2_with fail
      have f23 := Blk.new w3 26 #[.int .i64 0, .int .i64 0]
      have bx22 := below_new w3 (.cells #[.int .i64 0, .int .i64 0] 26)
      obtain ⟨W21, hW24⟩ : ∃ W, W = w3.alloc (.cells #[.int .i64 0, .int .i64 0] 26) := ⟨_, rfl⟩
      rw [← hW24] at f23 bx22 ⊢
      clear hW24
      have f26 := f15.stay bx22
      have f27 := f16.stay bx22
      have f28 := f17.stay bx22
      have f29 := f18.stay bx22
      have f30 := f19.stay bx22
      have f31 := hr3.stay bx22
      have b32 := b20.trans (bx22.mono b20.size)
      clear b20
      clear f15 f16 f17 f18 f19 hr3
      refine (decodeH A k k l (a ++ b) p 0 0 _ f26 (by omega) (Hd.out.below b32) HC.out).mono ?_
      rintro e w4 ⟨A4, c4, rfl, hr4, hb4⟩
      have f33 := f26.stay hb4
      have f34 := f27.stay hb4
      have f35 := f28.stay hb4
      have f36 := f29.stay hb4
      have f37 := f30.stay hb4
      have f38 := f31.stay hb4
      have f39 := f23.stay hb4
      have b40 := b32.trans (hb4.mono b32.size)
      clear b32
      clear f26 f27 f28 f29 f30 f31 f23
      obtain ⟨W, hW⟩ : ∃ W, W = w4.alloc (.cells #[.int .i64 0, .int .i64 0] 26) := ⟨_, rfl⟩
      have bW : Below w4.heap.size w4 W := by rw [hW]; exact below_new w4 (.cells #[.int .i64 0, .int .i64 0] 26)
      have f41 := f33.stay bW
      have f42 := f34.stay bW
      have f43 := f35.stay bW
      have f44 := f36.stay bW
      have f45 := f37.stay bW
      have f46 := f38.stay bW
      have f47 := f39.stay bW
      have f48 := hr4.stay bW
      have b49 := b40.trans (bW.mono b40.size)
      clear b40
      clear f33 f34 f35 f36 f37 f38 f39 hr4
      go_wp2_with (at_builtin; first | (rw [← hW]; refine wpList_appR rfl (.tmp 81) (.tmp 82) 22 rfl Tryd.underlying22 hi hz0 hz1 hz2 rfl (by omega) W (.slice none 0 0) 0 [] rfl (World.ownsRow_nil _ _ _ _) rfl f44 (iv_one _) (by omega) (Nat.le_refl W.heap.size) ?_; clear hW; intro v3 w5 ho5 hB5 _) | (refine wpList_appR rfl (.tmp 84) (.tmp 85) 22 rfl Tryd.underlying22 hi hz0 hz1 hz2 rfl (by omega) w5 v3 _ _ rfl ho5 rfl (f46.below hB5) (iv_one _) (by omega) hB5.size ?_; intro v6 w6 ho6 hB6 _))
      obtain ⟨A6, c6, rfl, _, hr6⟩ := val_of_own ho6
      have q4 := (f48.below (hB5.trans hB6)).more (hB5.trans hB6).size
      rw [List.nil_append, ← List.map_append] at hr6
      have bF := b49.trans ((hB5.trans hB6).mono b49.size)
      rw [List.length_append] at q4
      go_wp2_with fail
      refine (equalH _ _ _ _ _ _ (a ++ b) (a ++ b) _ hr6 q4 (by omega)).mono ?_
      rintro e w7 ⟨rfl, hb7⟩
      rw [eqB_self]
      have bG := bF.trans (hb7.mono bF.size)
      go_wp2_with fail
      refine (awake_any _ (Hd.out.below bG)).mono ?_
      rintro e wz ⟨rfl, bz⟩
      go_wp2
      go_ret
      exact ⟨rfl, bG.trans (bz.mono bG.size)⟩
    · rw [if_neg hcap] at hcutr
      obtain ⟨a, b, hA, hB, hC, hal, hbl⟩ := dec_two p (by omega) hkk (l.take k) (l.drop k) hcon
      rw [List.take_append_drop] at hC
      rw [List.length_take] at hal
      rw [List.length_drop] at hbl
      have HA := Lib.hid hA
      have HB := Lib.hid hB
      have HC := Lib.hid hC
      have hal2 : a.length ≤ 3000 := by omega
      have hbl2 : b.length ≤ 3000 := by omega
      clear hA hB hC hal hbl hln hkk hcon
      go_enter Tryd.func8, Tryd.ntmps8
      go_wp2_with fail
      refine (decodeH A k _ (l.take k) a p 0 0 w hheadr (by omega) Hd.out HA.out).mono ?_
      rintro e w2 ⟨A2, c2, rfl, hr2, hb2⟩
      have f1 := hr.stay hb2
      have f2 := hheadr.stay hb2
      have f3 := hcutr.stay hb2
      have b4 := hb2
      clear hr hheadr hcutr
      go_wp2_with fail
      have f7 := Blk.new w2 26 #[.int .i64 0, .int .i64 0]
      have bx6 := below_new w2 (.cells #[.int .i64 0, .int .i64 0] 26)
      obtain ⟨W5, hW8⟩ : ∃ W, W = w2.alloc (.cells #[.int .i64 0, .int .i64 0] 26) := ⟨_, rfl⟩
      rw [← hW8] at f7 bx6 ⊢
      clear hW8
      have f10 := f1.stay bx6
      have f11 := f2.stay bx6
      have f12 := f3.stay bx6
      have f13 := hr2.stay bx6
      have b14 := b4.trans (bx6.mono b4.size)
      clear b4
      clear f1 f2 f3 hr2
      refine (decodeH _ (n - k) _ (l.drop k) b p 0 0 _ f12 (by omega) (Hd.out.below b14) HB.out).mono ?_
      rintro e w3 ⟨A3, c3, rfl, hr3, hb3⟩
      have f15 := f10.stay hb3
      have f16 := f11.stay hb3
      have f17 := f12.stay hb3
      have f18 := f13.stay hb3
      have f19 := f7.stay hb3
      have b20 := b14.trans (hb3.mono b14.size)
      clear b14
      clear f10 f11 f12 f13 f7
      go_wp2_with fail
      have f23 := Blk.new w3 26 #[.int .i64 0, .int .i64 0]
      have bx22 := below_new w3 (.cells #[.int .i64 0, .int .i64 0] 26)
      obtain ⟨W21, hW24⟩ : ∃ W, W = w3.alloc (.cells #[.int .i64 0, .int .i64 0] 26) := ⟨_, rfl⟩
      rw [← hW24] at f23 bx22 ⊢
      clear hW24
      have f26 := f15.stay bx22
      have f27 := f16.stay bx22
      have f28 := f17.stay bx22
      have f29 := f18.stay bx22
      have f30 := f19.stay bx22
      have f31 := hr3.stay bx22
      have b32 := b20.trans (bx22.mono b20.size)
      clear b20
      clear f15 f16 f17 f18 f19 hr3
      refine (decodeH A n cap l (a ++ b) p 0 0 _ f26 (by omega) (Hd.out.below b32) HC.out).mono ?_
      rintro e w4 ⟨A4, c4, rfl, hr4, hb4⟩
      have f33 := f26.stay hb4
      have f34 := f27.stay hb4
      have f35 := f28.stay hb4
      have f36 := f29.stay hb4
      have f37 := f30.stay hb4
      have f38 := f31.stay hb4
      have f39 := f23.stay hb4
      have b40 := b32.trans (hb4.mono b32.size)
      clear b32
      clear f26 f27 f28 f29 f30 f31 f23
      obtain ⟨W, hW⟩ : ∃ W, W = w4.alloc (.cells #[.int .i64 0, .int .i64 0] 26) := ⟨_, rfl⟩
      have bW : Below w4.heap.size w4 W := by rw [hW]; exact below_new w4 (.cells #[.int .i64 0, .int .i64 0] 26)
      have f41 := f33.stay bW
      have f42 := f34.stay bW
      have f43 := f35.stay bW
      have f44 := f36.stay bW
      have f45 := f37.stay bW
      have f46 := f38.stay bW
      have f47 := f39.stay bW
      have f48 := hr4.stay bW
      have b49 := b40.trans (bW.mono b40.size)
      clear b40
      clear f33 f34 f35 f36 f37 f38 f39 hr4
      go_wp2_with (at_builtin; first | (rw [← hW]; refine wpList_appR rfl (.tmp 81) (.tmp 82) 22 rfl Tryd.underlying22 hi hz0 hz1 hz2 rfl (by omega) W (.slice none 0 0) 0 [] rfl (World.ownsRow_nil _ _ _ _) rfl f44 (iv_one _) (by omega) (Nat.le_refl W.heap.size) ?_; clear hW; intro v3 w5 ho5 hB5 _) | (refine wpList_appR rfl (.tmp 84) (.tmp 85) 22 rfl Tryd.underlying22 hi hz0 hz1 hz2 rfl (by omega) w5 v3 _ _ rfl ho5 rfl (f46.below hB5) (iv_one _) (by omega) hB5.size ?_; intro v6 w6 ho6 hB6 _))
      obtain ⟨A6, c6, rfl, _, hr6⟩ := val_of_own ho6
      have q4 := (f48.below (hB5.trans hB6)).more (hB5.trans hB6).size
      rw [List.nil_append, ← List.map_append] at hr6
      have bF := b49.trans ((hB5.trans hB6).mono b49.size)
      rw [List.length_append] at q4
      go_wp2_with fail
      refine (equalH _ _ _ _ _ _ (a ++ b) (a ++ b) _ hr6 q4 (by omega)).mono ?_
      rintro e w7 ⟨rfl, hb7⟩
      rw [eqB_self]
      have bG := bF.trans (hb7.mono bF.size)
      go_wp2_with fail
      refine (awake_any _ (Hd.out.below bG)).mono ?_
      rintro e wz ⟨rfl, bz⟩
      go_wp2
      go_ret
      exact ⟨rfl, bG.trans (bz.mono bG.size)⟩
  have hkn3 : (k : Int) < (n : Int) := by omega
  have hcap : ¬ cap = k := by omega
  have hcap1 : ¬ cap = k - 1 := by omega
  have hcutb := hr.cut (k := k - 1) (cap := cap) (by omega) hc
  rw [if_neg hcap1, Nat.mul_one, ← List.map_drop] at hcutb
  obtain ⟨c, j, b', hbg⟩ : ∃ c j b', begB (l.drop (k - 1)) = (c, j, b') := ⟨_, _, _, rfl⟩
  have hBG : Calls Tryd.prog 21 #[.slice (A.map (fun x => x.add (k - 1))) (n - (k - 1)) (cap - (k - 1))] w fun e w' => e = .returned (.tuple #[.int .i64 c, .int .i64 j, .bool b']) ∧ w = w' := by
    have := begin_any _ (n - (k - 1)) (cap - (k - 1)) _ _ w hcutb (by intro h; have h2 := congrArg List.length h; rw [List.length_drop] at h2; simp at h2; omega)
    rw [hbg] at this
    exact this
  have HBG := Lib.hid hBG
  clear hBG hcutb
  by_cases hj : j = 2
  · subst hj
    clear hcutr hheadr
    go_enter Tryd.func8, Tryd.ntmps8
    go_wp2_with fail
    refine HBG.out.mono ?_
    rintro e w1 ⟨rfl, rfl⟩
    go_wp2_with fail
    refine (awake_any _ Hd.out).mono ?_
    rintro e wz ⟨rfl, bz⟩
    go_wp2
    go_ret
    exact ⟨rfl, bz⟩
  have hcon := beg_cut (l := l) (k := k) (by omega) (by omega) (fun _ => by rw [hbg]; exact hj)
  have hj' : (j == 2) = false := by simpa using hj
  clear hbg hkn2 hk0
  rw [if_neg hcap] at hcutr
  obtain ⟨a, b, hA, hB, hC, hal, hbl⟩ := dec_two p (by omega) hkk (l.take k) (l.drop k) hcon
  rw [List.take_append_drop] at hC
  rw [List.length_take] at hal
  rw [List.length_drop] at hbl
  have HA := Lib.hid hA
  have HB := Lib.hid hB
  have HC := Lib.hid hC
  have hal2 : a.length ≤ 3000 := by omega
  have hbl2 : b.length ≤ 3000 := by omega
  clear hA hB hC hal hbl hln hkk hcon
  go_enter Tryd.func8, Tryd.ntmps8
  go_wp2_with fail
  refine HBG.out.mono ?_
  rintro e w1 ⟨rfl, rfl⟩
  go_wp2_with fail
  refine (decodeH A k _ (l.take k) a p 0 0 w hheadr (by omega) Hd.out HA.out).mono ?_
  rintro e w2 ⟨A2, c2, rfl, hr2, hb2⟩
  have f1 := hr.stay hb2
  have f2 := hheadr.stay hb2
  have f3 := hcutr.stay hb2
  have b4 := hb2
  clear hr hheadr hcutr
  go_wp2_with fail
  have f7 := Blk.new w2 26 #[.int .i64 0, .int .i64 0]
  have bx6 := below_new w2 (.cells #[.int .i64 0, .int .i64 0] 26)
  obtain ⟨W5, hW8⟩ : ∃ W, W = w2.alloc (.cells #[.int .i64 0, .int .i64 0] 26) := ⟨_, rfl⟩
  rw [← hW8] at f7 bx6 ⊢
  clear hW8
  have f10 := f1.stay bx6
  have f11 := f2.stay bx6
  have f12 := f3.stay bx6
  have f13 := hr2.stay bx6
  have b14 := b4.trans (bx6.mono b4.size)
  clear b4
  clear f1 f2 f3 hr2
  refine (decodeH _ (n - k) _ (l.drop k) b p 0 0 _ f12 (by omega) (Hd.out.below b14) HB.out).mono ?_
  rintro e w3 ⟨A3, c3, rfl, hr3, hb3⟩
  have f15 := f10.stay hb3
  have f16 := f11.stay hb3
  have f17 := f12.stay hb3
  have f18 := f13.stay hb3
  have f19 := f7.stay hb3
  have b20 := b14.trans (hb3.mono b14.size)
  clear b14
  clear f10 f11 f12 f13 f7
  go_wp2_with fail
  have f23 := Blk.new w3 26 #[.int .i64 0, .int .i64 0]
  have bx22 := below_new w3 (.cells #[.int .i64 0, .int .i64 0] 26)
  obtain ⟨W21, hW24⟩ : ∃ W, W = w3.alloc (.cells #[.int .i64 0, .int .i64 0] 26) := ⟨_, rfl⟩
  rw [← hW24] at f23 bx22 ⊢
  clear hW24
  have f26 := f15.stay bx22
  have f27 := f16.stay bx22
  have f28 := f17.stay bx22
  have f29 := f18.stay bx22
  have f30 := f19.stay bx22
  have f31 := hr3.stay bx22
  have b32 := b20.trans (bx22.mono b20.size)
  clear b20
  clear f15 f16 f17 f18 f19 hr3
  refine (decodeH A n cap l (a ++ b) p 0 0 _ f26 (by omega) (Hd.out.below b32) HC.out).mono ?_
  rintro e w4 ⟨A4, c4, rfl, hr4, hb4⟩
  have f33 := f26.stay hb4
  have f34 := f27.stay hb4
  have f35 := f28.stay hb4
  have f36 := f29.stay hb4
  have f37 := f30.stay hb4
  have f38 := f31.stay hb4
  have f39 := f23.stay hb4
  have b40 := b32.trans (hb4.mono b32.size)
  clear b32
  clear f26 f27 f28 f29 f30 f31 f23
  obtain ⟨W, hW⟩ : ∃ W, W = w4.alloc (.cells #[.int .i64 0, .int .i64 0] 26) := ⟨_, rfl⟩
  have bW : Below w4.heap.size w4 W := by rw [hW]; exact below_new w4 (.cells #[.int .i64 0, .int .i64 0] 26)
  have f41 := f33.stay bW
  have f42 := f34.stay bW
  have f43 := f35.stay bW
  have f44 := f36.stay bW
  have f45 := f37.stay bW
  have f46 := f38.stay bW
  have f47 := f39.stay bW
  have f48 := hr4.stay bW
  have b49 := b40.trans (bW.mono b40.size)
  clear b40
  clear f33 f34 f35 f36 f37 f38 f39 hr4
  go_wp2_with (at_builtin; first | (rw [← hW]; refine wpList_appR rfl (.tmp 81) (.tmp 82) 22 rfl Tryd.underlying22 hi hz0 hz1 hz2 rfl (by omega) W (.slice none 0 0) 0 [] rfl (World.ownsRow_nil _ _ _ _) rfl f44 (iv_one _) (by omega) (Nat.le_refl W.heap.size) ?_; clear hW; intro v3 w5 ho5 hB5 _) | (refine wpList_appR rfl (.tmp 84) (.tmp 85) 22 rfl Tryd.underlying22 hi hz0 hz1 hz2 rfl (by omega) w5 v3 _ _ rfl ho5 rfl (f46.below hB5) (iv_one _) (by omega) hB5.size ?_; intro v6 w6 ho6 hB6 _))
  obtain ⟨A6, c6, rfl, _, hr6⟩ := val_of_own ho6
  have q4 := (f48.below (hB5.trans hB6)).more (hB5.trans hB6).size
  rw [List.nil_append, ← List.map_append] at hr6
  have bF := b49.trans ((hB5.trans hB6).mono b49.size)
  rw [List.length_append] at q4
  go_wp2_with fail
  refine (equalH _ _ _ _ _ _ (a ++ b) (a ++ b) _ hr6 q4 (by omega)).mono ?_
  rintro e w7 ⟨rfl, hb7⟩
  rw [eqB_self]
  have bG := bF.trans (hb7.mono bF.size)
  go_wp2_with fail
  refine (awake_any _ (Hd.out.below bG)).mono ?_
  rintro e wz ⟨rfl, bz⟩
  go_wp2
  go_ret
  exact ⟨rfl, bG.trans (bz.mono bG.size)⟩
end Go.Proofs.YtpkikgdcmhbehaaDoor
