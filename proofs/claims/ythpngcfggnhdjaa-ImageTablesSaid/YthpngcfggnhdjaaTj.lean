/- image.Table and the reference's Table. -/
import Derived.Test.YthpngcfggnhdjaaTi
namespace Go.Proofs.Ythpngcfggnhdjaa
open Go.RowKit Go.Proofs.Img

theorem len_ints (l : List Int) : (intsB l).length ≤ 10 + 10 * l.length := by
  have := flat_le l; have := numB_le l.length; unfold intsB; rw [List.length_append]; omega
theorem len_ls : ∀ (ss : List (List Int)), (lsB ss).length ≤ 10 * ss.length + 10 * tot ss
  | [] => by simp [lsB, tot]
  | l :: ss => by
    have h1 := len_ints l
    have h2 := len_ls ss
    have e : lsB (l :: ss) = intsB l ++ lsB ss := by simp [lsB]
    have e2 : tot (l :: ss) = l.length + tot ss := by simp [tot]
    rw [e, List.length_append, List.length_cons]; omega
theorem Few.len {ws : List Int} {ss : List (List Int)} (h : Few ws ss) : (intsB ws).length ≤ 51000 ∧ (lsB ss).length ≤ 51000 := by
  have := len_ints ws; have := len_ls ss; have := h.t; have := h.n; omega
/-- a table that came in -/
structure TabI (w : World) (A : Option Addr) (n c : Nat) (A' : Option Addr) (n' c' : Nat) (ws : List Int) (ss : List (List Int)) : Prop where
  tab : Tab w w.heap.size A n c A' n' c' ws ss
  iw : ∀ x ∈ ws, I64 x
  is : ∀ l ∈ ss, ∀ x ∈ l, I64 x
  few : Few ws ss
theorem TabI.stay {w w' : World} {A A' : Option Addr} {n c n' c' : Nat} {ws : List Int} {ss : List (List Int)} (h : TabI w A n c A' n' c' ws ss) (hb : Below w.heap.size w w') : TabI w' A n c A' n' c' ws ss := ⟨h.tab.stay hb, h.iw, h.is, h.few⟩
theorem TabI.n_le {w : World} {A A' : Option Addr} {n c n' c' : Nat} {ws : List Int} {ss : List (List Int)} (h : TabI w A n c A' n' c' ws ss) : n ≤ 5000 ∧ n' < 100 := by
  have := h.tab.len; have := h.few.w; have := h.few.n; omega
theorem TabI.s_le {w : World} {A A' : Option Addr} {n c n' c' : Nat} {ws : List Int} {ss : List (List Int)} (h : TabI w A n c A' n' c' ws ss) (i : Nat) : (stg ss i).length ≤ 5000 := stg_mem (p := fun l => l.length ≤ 5000) h.few.s (by simp)
theorem TabI.w64 {w : World} {A A' : Option Addr} {n c n' c' : Nat} {ws : List Int} {ss : List (List Int)} (h : TabI w A n c A' n' c' ws ss) (i : Nat) : ∀ x ∈ stg ss i, W64 x := stg_mem (p := fun l => ∀ x ∈ l, W64 x) (fun l hl x hx => W64_I64 (h.is l hl x hx)) (fun x hx => by cases hx)
theorem rowsOf_of {w : World} {B : Nat} {vs : List Value} {ls : List (List Int)} (h : Rows w B vs ls) (hI : ∀ l ∈ ls, ∀ x ∈ l, I64 x) : RowsOf w B vs ls :=
  ⟨h.1, fun j l hl => by obtain ⟨A, c, h1, _, h2⟩ := h.2 j l hl; exact ⟨A, c, h1, h2, hI l (List.mem_of_getElem? hl)⟩⟩
theorem writeS {w : World} {A A' : Option Addr} {n c n' c' : Nat} {ws : List Int} {ss : List (List Int)} (h : TabI w A n c A' n' c' ws ss) : Calls Try.prog 36 #[.slice A' n' c'] w fun e w' => e = .returned (.string ⟨(lsB ss).toArray⟩) ∧ Below w.heap.size w w' := by
  obtain ⟨vs, h1, h2⟩ := h.tab.stages
  exact write_any w.heap.size n' c' A' vs ss w h1 (rowsOf_of h2 h.is) (Nat.le_refl _) (by have := h.few.len; omega)
theorem writeW {w : World} {A A' : Option Addr} {n c n' c' : Nat} {ws : List Int} {ss : List (List Int)} (h : TabI w A n c A' n' c' ws ss) (W : World) (hW : W = w.alloc (.cells #[.slice A n c] 26)) : Calls Try.prog 36 #[.slice (some ⟨w.heap.size, 0, none⟩) 1 1] W fun e w' => e = .returned (.string ⟨(intsB ws).toArray⟩) ∧ Below w.heap.size w w' := by
  subst hW
  have hl : ws.length = n := h.tab.len.1
  have hr := reads_new w #[.slice A n c] 26 [.slice A n c] rfl
  have hb := newBl w (.cells #[.slice A n c] 26)
  refine (write_any (w.heap.size + 1) 1 1 _ [.slice A n c] [ws] _ hr ⟨rfl, fun j l hj => ?_⟩ (by simp) (by rw [lsB_one]; have := h.few.len; omega)).mono ?_
  · match j, hj with
    | 0, hj =>
      simp at hj
      subst hj
      exact ⟨A, c, by simp [hl], by rw [hl]; exact (h.tab.widths.below hb).more (by omega), h.iw⟩
  · rintro e w' ⟨h1, h2⟩
    rw [lsB_one] at h1
    exact ⟨h1, hb.trans (h2.mono hb.size)⟩

set_option maxRecDepth 100000 in
set_option maxHeartbeats 4000000 in
theorem tableW_any (A A' : Option Addr) (n c n' c' : Nat) (ws : List Int) (ss : List (List Int)) (s : List UInt8) (e : Int) (w : World) (h : TabI w A n c A' n' c' ws ss) (hW : (okT ws ss ∧ s = shutB (tabB ws ss) ∧ e = 0) ∨ (¬ okT ws ss ∧ s = [] ∧ e = 11)) :
    Calls Try.prog 34 #[.agg #[.slice A n c, .slice A' n' c']] w fun r w' => r = .returned (.tuple #[.string ⟨s.toArray⟩, .int .i64 e]) ∧ Below w.heap.size w w' := by
  obtain ⟨hn, hn'⟩ := h.n_le
  have b0 := newBl w (.cells #[.slice A n c, .slice A' n' c'] 51)
  have p0 := Blk.new w 51 #[.slice A n c, .slice A' n' c']
  have H0 := Lib.hid (h.stay b0)
  have g0 := p0.cell 0
  have g1 := p0.cell 1
  have hlen := h.few.len
  clear h
  go_enter Try.func34, Try.ntmps34
  go_wp2_with fail
  clear g0 g1
  obtain ⟨W, hWW⟩ : ∃ W, W = w.alloc (.cells #[.slice A n c, .slice A' n' c'] 51) := ⟨_, rfl⟩
  rw [← hWW] at b0 p0 H0 ⊢
  clear hWW
  refine (validT_any A A' n c n' c' ws ss W H0.out.tab (by omega) (by omega) (fun i => by have := H0.out.s_le i; omega) H0.out.w64).mono ?_
  rintro x w1 ⟨⟨r, rfl, hr⟩, bb⟩
  have p1 := stayBl p0 bb
  have b1 := b0.trans (bb.mono b0.size)
  have H1 := Lib.hid (H0.out.stay bb)
  clear bb p0 b0 H0
  rcases hW with ⟨hok, rfl, rfl⟩ | ⟨hno, rfl, rfl⟩
  · have hrt : r = true := hr.2 hok
    clear hr hok
    subst hrt
    obtain ⟨X, hX⟩ : ∃ X, X = intsB ws := ⟨_, rfl⟩
    obtain ⟨Y, hY⟩ : ∃ Y, Y = lsB ss := ⟨_, rfl⟩
    obtain ⟨Z, hZ⟩ : ∃ Z, Z = tabB ws ss := ⟨_, rfl⟩
    have hXY : (⟨X.toArray⟩ : ByteArray) ++ ⟨Y.toArray⟩ = ⟨Z.toArray⟩ := by
      rw [hX, hY, hZ, tabB]
      apply ByteArray.ext
      simp
    have hZl : Z.length ≤ 102000 := by rw [hZ, tabB, List.length_append]; omega
    rw [← hX, ← hY] at hlen
    obtain ⟨hXl, hYl⟩ := hlen
    have hA : ∀ u : World, (Op.stringOp .add ⟨X.toArray⟩ ⟨Y.toArray⟩).run Try.prog u = .ok (.string ⟨Z.toArray⟩) u := fun u => by rw [run_string_add_sum u _ _ (by simp [ByteArray.size]; omega), hXY]
    have C0 := Lib.hid (show ∀ W', W' = (w1.alloc (.cells #[.slice A n c] 26)).drew → Calls Try.prog 36 #[.slice (some ⟨w1.heap.size, 0, none⟩) 1 1] W' fun e u => e = .returned (.string ⟨X.toArray⟩) ∧ Below w1.heap.size w1 u from fun W' hW' => by
      have H2 : TabI w1.drew A n c A' n' c' ws ss := H1.out.stay (Below.refl _ _).drew
      rw [hX]
      exact (writeW H2 W' (hW'.trans rfl)).mono fun e u ⟨h1, h2⟩ => ⟨h1, (Below.refl _ _).drew.trans h2⟩)
    have C1 := Lib.hid (show ∀ u, Below w1.heap.size w1 u → Calls Try.prog 36 #[.slice A' n' c'] u fun e v => e = .returned (.string ⟨Y.toArray⟩) ∧ Below w1.heap.size w1 v from fun u hu => by
      rw [hY]
      exact (writeS (H1.out.stay hu)).mono fun e v ⟨h1, h2⟩ => ⟨h1, hu.trans (h2.mono hu.size)⟩)
    have C2 := Lib.hid (show ∀ u, Below w1.heap.size w1 u → Calls Try.prog 20 #[.string ⟨Z.toArray⟩] u fun e v => e = .returned (.string ⟨(shutB (tabB ws ss)).toArray⟩) ∧ Below w1.heap.size w1 v from fun u hu => by
      rw [← hZ]
      exact (shut_any Z u (by omega)).mono fun e v ⟨h1, h2⟩ => ⟨h1, hu.trans (h2.mono hu.size)⟩)
    have KK := Lib.hid (show ∀ u, Below w1.heap.size w1 u → u.cell? ⟨w.heap.size, 0, none⟩ = some (.slice A n c) ∧ u.cell? ⟨w.heap.size, 1, none⟩ = some (.slice A' n' c') from fun u hu => ⟨(stayBl p1 hu).cell 0, (stayBl p1 hu).cell 1⟩)
    have Hb1 := Lib.hid b1
    have hbS : Below w1.heap.size w1 w1.drew := (Below.refl _ _).drew
    clear hX hY hZ hXY b1
    go_wp2_with fail
    go_region_held3 (fun u => Below w1.heap.size w1 u ∧ u.cell? ⟨w.heap.size, 0, none⟩ = some (.slice A n c) ∧ u.cell? ⟨w.heap.size, 1, none⟩ = some (.slice A' n' c')) (first | exact ⟨hbS, KK.out _ hbS⟩ | exact ⟨(Below.refl _ _).drew, KK.out _ (Below.refl _ _).drew⟩ | exact ⟨(Below.refl _ _).drew.alloc (Nat.le_refl _) _, KK.out _ ((Below.refl _ _).drew.alloc (Nat.le_refl _) _)⟩ | exact ⟨((Below.refl _ _).alloc (Nat.le_refl _) _).drew, KK.out _ ((Below.refl _ _).alloc (Nat.le_refl _) _).drew⟩) (first | (go_at_call 36; ((with_reducible refine (C0.out _ rfl).mono ?_); rintro r u ⟨rfl, hbu⟩; clear hbS; have hbS := hbu; clear hbu)) | (go_at_call 36; ((with_reducible refine (C1.out _ hbS).mono ?_); rintro r u ⟨rfl, hbu⟩; clear hbS; have hbS := hbu; clear hbu)) | (go_at_call 20; ((with_reducible refine (C2.out _ hbS).mono ?_); rintro r u ⟨rfl, hbu⟩; clear hbS; have hbS := hbu; clear hbu)))
    all_goals
      go_wp2
      go_ret2
      exact ⟨rfl, Hb1.out.trans (hbS.mono Hb1.out.size)⟩
  · have hrf : r = false := by cases r with | true => exact absurd (hr.1 rfl) hno | false => rfl
    clear hr hno
    subst hrf
    go_wp2
    go_ret2
    exact ⟨rfl, b1⟩

theorem lsB_take_snoc {ss : List (List Int)} {k : Nat} (hk : k < ss.length) : lsB (ss.take (k + 1)) = lsB (ss.take k) ++ intsB (stg ss k) := by
  have e : stg ss k = ss[k] := by simp [stg, List.getD, List.getElem?_eq_getElem hk]
  rw [lsB_snoc ss k ss[k] (List.getElem?_eq_getElem hk), e]
theorem bytes_app (X Y : List UInt8) : (⟨X.toArray⟩ : ByteArray) ++ ⟨Y.toArray⟩ = ⟨(X ++ Y).toArray⟩ := by
  apply ByteArray.ext
  simp

set_option maxRecDepth 100000 in
set_option maxHeartbeats 4000000 in
theorem reftableW_any (A A' : Option Addr) (n c n' c' : Nat) (ws : List Int) (ss : List (List Int)) (s : List UInt8) (e : Int) (w : World) (h : TabI w A n c A' n' c' ws ss) (hW : (okT ws ss ∧ s = shutB (tabB ws ss) ∧ e = 0) ∨ (¬ okT ws ss ∧ s = [] ∧ e = 11)) :
    Calls Try.prog 35 #[.agg #[.slice A n c, .slice A' n' c']] w fun r w' => r = .returned (.tuple #[.string ⟨s.toArray⟩, .int .i64 e]) ∧ Below w.heap.size w w' := by
  obtain ⟨hn, hn'⟩ := h.n_le
  have b0 := newBl w (.cells #[.slice A n c, .slice A' n' c'] 51)
  have p0 := Blk.new w 51 #[.slice A n c, .slice A' n' c']
  have H0 := Lib.hid (h.stay b0)
  have g0 := p0.cell 0
  have g1 := p0.cell 1
  clear h
  go_enter Try.func35, Try.ntmps35
  go_wp2_with fail
  clear g0 g1
  obtain ⟨W, hWW⟩ : ∃ W, W = w.alloc (.cells #[.slice A n c, .slice A' n' c'] 51) := ⟨_, rfl⟩
  rw [← hWW] at b0 p0 H0 ⊢
  clear hWW
  refine (refvalidT_any A A' n c n' c' ws ss W H0.out.tab (by omega) (by omega) (fun i => by have := H0.out.s_le i; omega)).mono ?_
  rintro x w1 ⟨⟨r, rfl, hr⟩, bb⟩
  have p1 := stayBl p0 bb
  have b1 := b0.trans (bb.mono b0.size)
  have H1 := Lib.hid (H0.out.stay bb)
  clear bb p0 b0 H0
  rcases hW with ⟨hok, rfl, rfl⟩ | ⟨hno, rfl, rfl⟩
  · have hrt : r = true := hr.2 hok
    clear hr hok
    subst hrt
    have g0 := p1.cell 0
    go_wp2_with fail
    clear g0
    refine (refints_any w1.heap.size n c A ws w1 H1.out.tab.widths H1.out.iw (Nat.le_refl _) (by omega)).mono ?_
    rintro x w2 ⟨rfl, hb2⟩
    have p2 := stayBl p1 hb2
    have b2 := b1.trans (hb2.mono b1.size)
    have H2 := Lib.hid (H1.out.stay hb2)
    have hlen := H2.out.few.len
    have HB2 := Lib.hid b2
    clear p1 b1 H1 hb2 b2
    go_wp2
    go_loopw [4, 5] (fun v i wr => ∃ (k : Nat) (X : List UInt8), k ≤ n' ∧ i = .int .i64 (k : Int) ∧ v = .string ⟨X.toArray⟩ ∧ Hid (X = intsB ws ++ lsB (ss.take k)) ∧ Below w2.heap.size w2 wr) (fun _ i _ => n' - (intOf i).toNat)
    case atStart => exact ⟨0, _, by omega, rfl, rfl, Lib.hid (by simp [lsB]), Below.refl _ _⟩
    case round =>
      obtain ⟨k, X, hk, rfl, rfl, HX, hb⟩ := hrel
      have g1 := (p2.below hb p2.lt).cell 1
      have H3 := Lib.hid (H2.out.stay hb)
      have hXl : X.length ≤ 102000 := by
        have := lsB_take ss k
        rw [HX.out, List.length_append]; omega
      by_cases hlt : k < n'
      · obtain ⟨ad, A2, c2, rfl, had, hc0, _, hr0⟩ := H3.out.tab.at_ hlt
        have hl0 := H3.out.s_le k
        have hI := Lib.hid (show ∀ x ∈ stg ss k, I64 x from stg_mem (p := fun l => ∀ x ∈ l, I64 x) H3.out.is (fun x hx => by cases hx))
        have Hr0 := Lib.hid hr0
        have HX2 := Lib.hid (show X ++ intsB (stg ss k) = intsB ws ++ lsB (ss.take (k + 1)) by rw [lsB_take_snoc (by have := H3.out.tab.len; omega), HX.out, List.append_assoc])
        have hll := len_ints (stg ss k)
        obtain ⟨L, hL⟩ : ∃ L, L = stg ss k := ⟨_, rfl⟩
        rw [← hL] at hc0 hl0 hI Hr0 HX2 hll
        clear hL hr0
        have hki : (k : Int) < (n' : Int) := by omega
        go_wp2_with fail
        refine (refints_any wr.heap.size L.length c2 A2 L wr Hr0.out hI.out (Nat.le_refl _) (by omega)).mono ?_
        rintro x w3 ⟨rfl, hb3⟩
        have hA : ∀ u : World, (Op.stringOp .add ⟨X.toArray⟩ ⟨(intsB L).toArray⟩).run Try.prog u = .ok (.string ⟨(X ++ intsB L).toArray⟩) u := fun u => by rw [run_string_add_sum u _ _ (by simp [ByteArray.size]; omega), bytes_app]
        go_wp2
        go_roundw
        case rel => exact ⟨k + 1, _, by omega, by go_num, rfl, HX2, hb.trans (hb3.mono hb.size)⟩
        case measure => simp [intOf]; omega
      · have HE := Lib.hid (show X = tabB ws ss by rw [HX.out, tabB, List.take_of_length_le (by have := H3.out.tab.len; omega)])
        have hki : ¬ (k : Int) < (n' : Int) := by omega
        go_wp2_with fail
        refine (refshut_any X wr (by omega)).mono ?_
        rintro x w3 ⟨rfl, hb3⟩
        rw [HE.out]
        go_wp2
        go_ret2
        exact ⟨rfl, HB2.out.trans ((hb.trans (hb3.mono hb.size)).mono HB2.out.size)⟩
  · have hrf : r = false := by cases r with | true => exact absurd (hr.1 rfl) hno | false => rfl
    clear hr hno
    subst hrf
    go_wp2
    go_ret2
    exact ⟨rfl, b1⟩
end Go.Proofs.Ythpngcfggnhdjaa
