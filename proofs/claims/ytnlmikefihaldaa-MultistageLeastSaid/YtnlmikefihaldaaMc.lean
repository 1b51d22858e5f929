/- multistage: stretch, validSpans, Check. -/
import Derived.Test.YtnlmikefihaldaaMb
namespace Go.Proofs.Ytnlmikefihaldaa
open Go.RowKit

theorem Blk.stay {w w' : World} {g : Nat} {t : TypeId} {cs : Array Value} (h : Blk w g t cs) (hb : Below w.heap.size w w') : Blk w' g t cs := h.below hb h.lt

set_option maxRecDepth 100000 in
set_option maxHeartbeats 4000000 in
theorem stretch_any (A : Option Addr) (n c : Nat) (l : List (Int × Int × Int)) (x : Int) (w : World) (hr : Reads w w.heap.size 3 A n (l.flatMap spv)) (hn : n ≤ 2000000) (hs : okS l) (hx1 : x ≤ 1114111) :
    Calls Try.prog 33 #[.slice A n c, .int .i64 x] w fun e w' => (∃ v z : Int, e = .returned (.tuple #[.int .i64 v, .int .i64 z]) ∧ StrR l x v z) ∧ Below w.heap.size w w' := by
  have hl : l.length = n := by have := hr.1; rw [spv_len] at this; omega
  have hL : Below w.heap.size w ((w.alloc (.cells #[.slice A n c] 22)).alloc (.cells #[.int .i64 x] 3)) := ((Below.refl _ _).alloc (Nat.le_refl _) _).alloc (by simp) _
  have p1 : Blk ((w.alloc (.cells #[.slice A n c] 22)).alloc (.cells #[.int .i64 x] 3)) w.heap.size 22 #[.slice A n c] := (Blk.new w _ _).alloc _
  have p2 : Blk ((w.alloc (.cells #[.slice A n c] 22)).alloc (.cells #[.int .i64 x] 3)) (w.heap.size + 1) 3 #[.int .i64 x] := by
    have := Blk.new (w.alloc (.cells #[.slice A n c] 22)) 3 #[.int .i64 x]
    simpa using this
  have hmf : ∀ (fn : Fn) (first cap : Array Value) (w : World), (Instr.makeFunc fn first cap).run Try.prog w = .ok (.func fn first cap) w := fun _ _ _ _ => rfl
  have HL := Lib.hid hL
  have HR := Lib.hid ((hr.below hL).more hL.size)
  have P1 := Lib.hid p1
  have P2 := Lib.hid p2
  have Hs := Lib.hid hs
  have Hl := Lib.hid hl
  have g0 := p1.cell 0
  have g1 := p2.cell 0
  clear hL p1 p2 hr hs hl
  go_enter Try.func33, Try.ntmps33
  go_wp2_with fail
  clear g0 g1 hmf
  obtain ⟨W, hW⟩ : ∃ W, W = ((w.alloc (.cells #[.slice A n c] 22)).alloc (.cells #[.int .i64 x] 3)) := ⟨_, rfl⟩
  rw [← hW] at HL HR P1 P2 ⊢
  clear hW
  refine (search_any n (hiGe l x) #[.pointer (some ⟨w.heap.size, 0, none⟩), .pointer (some ⟨w.heap.size + 1, 0, none⟩)] W hn (fun i j h1 h2 => hiGe_mono Hs.out x i j h1 (by rw [Hl.out]; exact h2)) (fun h u hh hu => ?_)).mono ?_
  · refine (strclos_any w.heap.size (w.heap.size + 1) A n c l x h u (P1.out.stay hu) (P2.out.stay hu) ((HR.out.below hu).more hu.size) hh).mono ?_
    rintro e u' ⟨he, q, rfl⟩
    exact ⟨he, below_drewN hu q⟩
  rintro e w1 ⟨⟨i, rfl, hi, hp1, hp2⟩, hb1⟩
  have Q1 := Lib.hid (P1.out.stay hb1)
  have Q2 := Lib.hid (P2.out.stay hb1)
  have R1 := Lib.hid ((HR.out.below hb1).more hb1.size)
  have B1 := Lib.hid (HL.out.trans (hb1.mono HL.out.size))
  have Hlow := Lib.hid (show ∀ (t : Nat) y, t < i → l[t]? = some y → y.2.1 < x from fun t y ht hy => by
    have := hp1 t ht
    unfold hiGe at this
    rw [hy] at this
    simp at this; omega)
  have Hhi := Lib.hid (show ∀ y, i < n → l[i]? = some y → x ≤ y.2.1 from fun y ht hy => by
    have := hp2 i (Nat.le_refl _) ht
    unfold hiGe at this
    rw [hy] at this
    simpa using this)
  clear hp1 hp2 hb1 P1 P2 HR HL
  have g0 := Q1.out.cell 0
  have g1 := Q2.out.cell 0
  by_cases hin : i = n
  · have HS := Lib.hid (str_end (l := l) (c := x) hx1 (fun t y hy => Hlow.out t y (by have := (List.getElem?_eq_some_iff.1 hy).1; have := Hl.out; omega) hy))
    have hd : ((i : Int) == (n : Int)) = true := by simp; omega
    go_wp2
    go_ret2
    exact ⟨⟨0, 1114111, rfl, HS.out⟩, B1.out⟩
  · have hlt : i < n := by omega
    obtain ⟨ad, lo, hi', v, rfl, hadb, hxl, c0, c1, c2⟩ := R1.out.span hlt
    have hd : ((i : Int) == (n : Int)) = false := by simp; omega
    have hii : (i : Int) < (n : Int) := by omega
    have hok := Hs.out.1 i _ hxl
    unfold okS1 at hok
    simp only at hok
    obtain ⟨ho1, ho2, ho3, ho4⟩ := hok
    have hge := Hhi.out _ hlt hxl
    simp only at hge
    by_cases hq : x < lo
    · have HS := Lib.hid (str_gap Hs.out hxl Hlow.out hq)
      clear hxl
      go_wp2_with fail
      go_quiet (fail)
      go_wp2_with fail
      go_quiet (fail)
      go_wp2
      go_ret2
      exact ⟨⟨0, lo - 1, rfl, HS.out⟩, below_drewN (below_drewN B1.out _) _⟩
    · have HS := Lib.hid (str_in Hs.out hxl Hlow.out (show lo ≤ x by omega) hge)
      clear hxl
      go_wp2_with fail
      go_quiet (fail)
      go_wp2_with fail
      go_quiet (fail)
      go_wp2
      go_ret2
      exact ⟨⟨v, hi', rfl, HS.out⟩, below_drewN (below_drewN B1.out _) _⟩

set_option maxRecDepth 100000 in
set_option maxHeartbeats 4000000 in
theorem validSpans_any (A : Option Addr) (n c : Nat) (l : List (Int × Int × Int)) (w : World) (hr : Reads w w.heap.size 3 A n (l.flatMap spv)) (hn : n ≤ 2000000) :
    Calls Try.prog 41 #[.slice A n c] w fun e w' => Says e (okS l) ∧ Below w.heap.size w w' := by
  have hl : l.length = n := by have := hr.1; rw [spv_len] at this; omega
  have Hl := Lib.hid hl
  have HR := Lib.hid hr
  clear hl hr
  go_enter Try.func41, Try.ntmps41
  go_wp2
  go_loopw [8] (fun i wr => ∃ k : Nat, k ≤ n ∧ i = .int .i64 (k : Int) ∧ Hid (okSn l k) ∧ Hid (Below w.heap.size w wr)) (fun i _ => n - (intOf i).toNat)
  case atStart => exact ⟨0, by omega, rfl, Lib.hid (okS_zero l), Lib.hid (Below.refl _ _)⟩
  case round =>
    obtain ⟨k, hk, rfl, Hk, Hb⟩ := hrel
    by_cases hlt : k < n
    · obtain ⟨ad, lo, hi, v, rfl, hadb, hxl, c0, c1, c2⟩ := (HR.out.below Hb.out).span hlt
      have Hx := Lib.hid hxl
      have Hno := Lib.hid (show ¬ okS1 (lo, hi, v) → ¬ okS l from fun h ho => h (ho.1 k _ Hx.out))
      have hki : (k : Int) < (n : Int) := by omega
      clear hxl
      obtain ⟨V, hV⟩ : ∃ V, V = wr.alloc (.cells #[.int .i64 lo, .int .i64 hi, .int .i64 v] 48) := ⟨_, rfl⟩
      have hN : Blk V wr.heap.size 48 #[.int .i64 lo, .int .i64 hi, .int .i64 v] := by rw [hV]; exact Blk.new _ _ _
      have bV : Below wr.heap.size wr V := by rw [hV]; exact (Below.refl _ _).alloc (Nat.le_refl _) _
      have HN := Lib.hid hN
      have BV := Lib.hid (Hb.out.trans (bV.mono Hb.out.size))
      have n0 := hN.cell 0
      have n1 := hN.cell 1
      have n2 := hN.cell 2
      rw [hV] at n0 n1 n2
      clear hN bV
      go_wp2_with fail
      rw [← hV]
      clear n0 n1 n2 hV c0 c1 c2
      by_cases q1 : 0 ≤ lo ∧ lo ≤ 1114111
      · refine (cpvalid_is lo true V (by rw [decide_eq_true q1])).mono ?_
        rintro e w1 ⟨rfl, rfl⟩
        have n1 := HN.out.cell 1
        go_wp2_with fail
        clear n1
        by_cases q2 : 0 ≤ hi ∧ hi ≤ 1114111
        rotate_left
        · refine (cpvalid_is hi false w1 (by rw [decide_eq_false q2])).mono ?_
          rintro e w2 ⟨rfl, rfl⟩
          have H := Lib.hid (Hno.out (fun ho => q2 ⟨by have := ho.1; have := ho.2.1; simp only at *; omega, ho.2.2.1⟩))
          clear q1 q2
          go_wp2
          go_ret
          exact ⟨Says.no rfl H.out, BV.out⟩
        refine (cpvalid_is hi true w1 (by rw [decide_eq_true q2])).mono ?_
        rintro e w2 ⟨rfl, rfl⟩
        have n0 := HN.out.cell 0
        have n1 := HN.out.cell 1
        have n2 := HN.out.cell 2
        obtain ⟨q1a, q1b⟩ := q1
        obtain ⟨q2a, q2b⟩ := q2
        by_cases q3 : hi < lo
        · have H := Lib.hid (Hno.out (fun ho => by have := ho.2.1; simp only at this; omega))
          go_wp2
          go_ret
          exact ⟨Says.no rfl H.out, BV.out⟩
        by_cases q4 : v = 0
        · have H := Lib.hid (Hno.out (fun ho => ho.2.2.2 q4))
          subst q4
          go_wp2
          go_ret
          exact ⟨Says.no rfl H.out, BV.out⟩
        have Hx1 := Lib.hid (show okS1 (lo, hi, v) from ⟨q1a, by simp only; omega, q2b, q4⟩)
        have q4b : (v == 0) = false := by simpa using q4
        cases k with
        | zero =>
          have HK := Lib.hid (okS_one Hx.out Hx1.out)
          go_wp2
          go_roundw
          case rel => exact ⟨1, by omega, by go_num, HK, BV⟩
          case measure => simp [intOf]; omega
        | succ k =>
          obtain ⟨ad', lo', hi', v', e', _, hxl', d0, d1, d2⟩ := (HR.out.below BV.out).span (k := k) (by omega)
          injection e' with e'
          subst e'
          have hk0 : ¬ ((k : Int) + 1 = 0) := by omega
          have hk1 : (k : Int) < (n : Int) := by omega
          have Hx' := Lib.hid hxl'
          have Hno2 := Lib.hid (show ¬ okS2 (lo', hi', v') (lo, hi, v) → ¬ okS l from fun h ho => h (ho.2 k _ _ Hx'.out Hx.out))
          have hpr := Hk.out.1 k _ (by omega) hxl'
          unfold okS1 at hpr
          simp only at hpr
          obtain ⟨r1, r2, r3, r4⟩ := hpr
          clear hxl' q4
          obtain ⟨V2, hV2⟩ : ∃ V2, V2 = w2.alloc (.cells #[.int .i64 lo', .int .i64 hi', .int .i64 v'] 48) := ⟨_, rfl⟩
          have hM : Blk V2 w2.heap.size 48 #[.int .i64 lo', .int .i64 hi', .int .i64 v'] := by rw [hV2]; exact Blk.new _ _ _
          have bV2 : Below w2.heap.size w2 V2 := by rw [hV2]; exact (Below.refl _ _).alloc (Nat.le_refl _) _
          have hN2 := HN.out.stay bV2
          have BV2 := Lib.hid (BV.out.trans (bV2.mono BV.out.size))
          have m0 := hM.cell 0
          have m1 := hM.cell 1
          have m2 := hM.cell 2
          have p0 := hN2.cell 0
          have p1 := hN2.cell 1
          have p2 := hN2.cell 2
          rw [hV2] at m0 m1 m2 p0 p1 p2
          clear hM bV2 hN2
          rw [hV2] at BV2
          by_cases s1 : lo ≤ hi'
          · have H := Lib.hid (Hno2.out (fun ho => by have := ho.1; simp only at this; omega))
            go_wp2
            go_ret
            exact ⟨Says.no rfl H.out, BV2.out⟩
          by_cases s2 : lo = hi' + 1
          · by_cases s3 : v = v'
            · have H := Lib.hid (Hno2.out (fun ho => ho.2 ⟨s2, s3⟩))
              subst s3
              subst s2
              go_wp2
              go_ret
              exact ⟨Says.no rfl H.out, BV2.out⟩
            · have HK := Lib.hid (okS_succ Hk.out Hx'.out Hx.out Hx1.out ⟨by simp only; omega, fun h => s3 h.2⟩)
              have s3b : (v == v') = false := by simpa using s3
              subst s2
              go_wp2
              go_roundw
              case rel => exact ⟨k + 1 + 1, by omega, by go_num, HK, BV2⟩
              case measure => simp [intOf]; omega
          · have HK := Lib.hid (okS_succ Hk.out Hx'.out Hx.out Hx1.out ⟨by simp only; omega, fun h => s2 h.1⟩)
            have s2b : (lo == hi' + 1) = false := by simpa using s2
            go_wp2
            go_roundw
            case rel => exact ⟨k + 1 + 1, by omega, by go_num, HK, BV2⟩
            case measure => simp [intOf]; omega
      · refine (cpvalid_is lo false V (by rw [decide_eq_false q1])).mono ?_
        rintro e w1 ⟨rfl, rfl⟩
        have H := Lib.hid (Hno.out (fun ho => q1 ⟨ho.1, by have := ho.2.1; have := ho.2.2.1; simp only at *; omega⟩))
        clear q1
        go_wp2
        go_ret
        exact ⟨Says.no rfl H.out, BV.out⟩
    · have H := Lib.hid (okS_all Hk.out (by have := Hl.out; omega))
      have hki : ¬ (k : Int) < (n : Int) := by omega
      go_wp2
      go_ret
      exact ⟨Says.yes rfl H.out, Hb.out⟩
/-- the first error of spans and widths -/
def ChkR (l : List (Int × Int × Int)) (ws : List Int) (r : Int) : Prop := (¬ okS l ∧ r = 4) ∨ (okS l ∧ ¬ okW ws ∧ r = 1) ∨ (okS l ∧ okW ws ∧ r = 0)
theorem ChkR.same {l : List (Int × Int × Int)} {ws : List Int} {r s : Int} (h : ChkR l ws r) (h' : ChkR l ws s) : r = s := by
  rcases h with ⟨a, rfl⟩ | ⟨a, b, rfl⟩ | ⟨a, b, rfl⟩ <;> rcases h' with ⟨c, rfl⟩ | ⟨c, d, rfl⟩ | ⟨c, d, rfl⟩ <;> first | rfl | exact absurd ‹okS l› ‹¬ okS l› | exact absurd ‹okW ws› ‹¬ okW ws›
def ChkE (e : Ending) (l : List (Int × Int × Int)) (ws : List Int) : Prop := ∃ r : Int, e = .returned (.int .i64 r) ∧ ChkR l ws r
set_option maxRecDepth 100000 in
set_option maxHeartbeats 4000000 in
theorem check_any (A : Option Addr) (n c : Nat) (l : List (Int × Int × Int)) (A' : Option Addr) (n' c' : Nat) (ws : List Int) (w : World) (hr : Reads w w.heap.size 3 A n (l.flatMap spv)) (hr' : Reads w w.heap.size 1 A' n' (ws.map iv)) (hn : n ≤ 2000000) (hc' : n' ≤ c') (hn' : n' ≤ 2000000) :
    Calls Try.prog 14 #[.slice A n c, .slice A' n' c'] w fun e w' => ChkE e l ws ∧ Below w.heap.size w w' := by
  have HR := Lib.hid hr
  have HR' := Lib.hid hr'
  clear hr hr'
  go_enter Try.func14, Try.ntmps14
  go_wp2_with fail
  refine (validSpans_any A n c l w HR.out hn).mono ?_
  rintro e w1 ⟨⟨r, rfl, hr⟩, hb1⟩
  have Hb1 := Lib.hid hb1
  have Hr := Lib.hid hr
  clear hb1 hr
  cases r with
  | false =>
    have H := Lib.hid (show ChkR l ws 4 from .inl ⟨fun h => absurd (Hr.out.2 h) (by decide), rfl⟩)
    clear Hr
    go_wp2
    go_ret
    exact ⟨⟨4, rfl, H.out⟩, Hb1.out⟩
  | true =>
    have Hs := Lib.hid (Hr.out.1 rfl)
    clear Hr
    go_wp2_with fail
    refine (validWidths_any A' n' c' ws w1 ((HR'.out.below Hb1.out).more Hb1.out.size) hc' (by omega)).mono ?_
    rintro e w2 ⟨rfl, rfl⟩
    by_cases hw : okW ws
    · have H := Lib.hid (show ChkR l ws 0 from .inr (.inr ⟨Hs.out, hw, rfl⟩))
      rw [decide_eq_true hw]
      clear hw
      go_wp2
      go_ret
      exact ⟨⟨0, rfl, H.out⟩, Hb1.out⟩
    · have H := Lib.hid (show ChkR l ws 1 from .inr (.inl ⟨Hs.out, hw, rfl⟩))
      rw [decide_eq_false hw]
      clear hw
      go_wp2
      go_ret
      exact ⟨⟨1, rfl, H.out⟩, Hb1.out⟩
end Go.Proofs.Ytnlmikefihaldaa
