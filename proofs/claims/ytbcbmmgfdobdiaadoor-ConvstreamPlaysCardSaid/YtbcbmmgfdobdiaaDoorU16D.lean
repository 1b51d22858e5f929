/- utf16text.Decode. -/
import Derived.Test.YtbcbmmgfdobdiaaDoorU16E
import Derived.Laws.StructEq
import Derived.Deep.RegionHeld3
namespace Go.Proofs.YtbcbmmgfdobdiaaDoor
open Go.RowKit

theorem run_equalIn_arr2 {P : Program} (w : World) (d : Nat) (t e : TypeId) (k : IntKind) (a b a' b' : Int) (ht : P.underlying t = some (.array 2 e))
    (hz : ∀ w, (Go.sizeOf e).run P w = .ok 1 w) (ha : ∀ w, (isAgg e).run P w = .ok false w) (hin : ∀ x y w, (Op.equalIn d e (.int k x) (.int k y)).run P w = .ok (x == y) w) :
    (Op.equalIn (d + 1) t (.agg #[.int k a, .int k b]) (.agg #[.int k a', .int k b'])).run P w = .ok (a == a' && b == b') w := by
  simp only [Op.equalIn, Sem.run_bind, run_underlying ht, Result.andThen_ok, hz]
  rw [Std.Legacy.Range.forIn_eq_forIn_range']
  cases h1 : a == a' <;> cases h2 : b == b' <;> simp [List.range', part, ha, hin, h1, h2, Std.Legacy.Range.size, List.forIn_cons, Result.andThen]

def high (u : Int) : Bool := decide (55296 ≤ u ∧ u ≤ 56319)
def low (u : Int) : Bool := decide (56320 ≤ u ∧ u ≤ 57343)
def jn (u v : Int) : Int := 65536 + (u - 55296) * 1024 + (v - 56320)

theorem neq2int (a b c d : Int) (w : World) : (binOp .neq 131 (.agg #[.int .i64 a, .int .i64 b]) (.agg #[.int .i64 c, .int .i64 d])).run Tryd.prog w = .ok (.bool (!(a == c && b == d))) w := by
  rw [run_neq_struct, run_equalIn_arr2 w 9999 131 3 .i64 a b c d Tryd.underlying131 Tryd.sizeOf3 Tryd.isAgg3 (fun x y w => run_equalIn_int w 9998 3 .i64 .i64 x y Tryd.underlying3)]
  rfl

theorem eqg (x y : Operand) (xs ys : Array Value) (w : World) : (eqGuard .neq 131 x y (.agg xs) (.agg ys)).run Tryd.prog w = .ok () w :=
  run_eqGuard_agg w .neq 131 x y xs ys (by kernel_rfl)

set_option maxRecDepth 100000 in
set_option maxHeartbeats 1000000 in
theorem join_yes (u v : Int) (w : World) (hh : high u = true) (hl : low v = true) :
    Calls Tryd.prog 134 #[.agg #[.int .i64 u, .int .i64 v]] w fun e w' => e = .returned (.tuple #[.int .i64 (jn u v), .bool true]) ∧ Below w.heap.size w w' := by
  have hu : 55296 ≤ u ∧ u ≤ 56319 := by simpa [high] using hh
  have hv : 56320 ≤ v ∧ v ≤ 57343 := by simpa [low] using hl
  obtain ⟨hu1, hu2⟩ := hu
  obtain ⟨hv1, hv2⟩ := hv
  clear hh hl
  have hx : 55296 + (65536 + (u - 55296) * 1024 + (v - 56320) - 65536) / 1024 = u := by omega
  have hy : 56320 + (65536 + (u - 55296) * 1024 + (v - 56320) - 65536) % 1024 = v := by omega
  have Hx := Lib.hid hx
  have Hy := Lib.hid hy
  have hc1 : 65536 ≤ 65536 + (u - 55296) * 1024 + (v - 56320) := by omega
  have hc2 : 65536 + (u - 55296) * 1024 + (v - 56320) ≤ 1114111 := by omega
  have hn1 : decide (65536 + (u - 55296) * 1024 + (v - 56320) < 65536) = false := by simp; omega
  have hn2 : decide (1114111 < 65536 + (u - 55296) * 1024 + (v - 56320)) = false := by simp; omega
  have hnq := neq2int u v u v
  simp only [BEq.rfl, Bool.and_self, Bool.not_true] at hnq
  have heg := eqg
  clear hx hy
  go_enter Tryd.func134, Tryd.ntmps134
  go_wp2_with fail
  have Hs : ∀ W : World, Calls Tryd.prog 94 #[.int .i64 (65536 + (u - 55296) * 1024 + (v - 56320))] W fun e w' => e = .returned (.agg #[.int .i64 u, .int .i64 v]) ∧ Below W.heap.size W w' := fun W =>
    (split_any _ W hc1 hc2).mono fun e w' ⟨h1, h2⟩ => ⟨by rw [h1, Hx.out, Hy.out], h2⟩
  have HS := Lib.hid Hs
  clear Hs
  have k0 : ∀ w' : World, Below (w.heap.size + 1) (w.alloc (.cells #[.int .i64 u, .int .i64 v] 131)) w' → w'.cell? ⟨w.heap.size, 0, none⟩ = some (.int .i64 u) ∧ w'.cell? ⟨w.heap.size, 1, none⟩ = some (.int .i64 v) := fun w' hb => by
    have := (Blk.new w 131 #[.int .i64 u, .int .i64 v]).below hb (by omega)
    exact ⟨this.cell 0, this.cell 1⟩
  have K0 := Lib.hid k0
  clear k0
  go_region_held3 (fun w' => Below (w.heap.size + 1) (w.alloc (.cells #[.int .i64 u, .int .i64 v] 131)) w' ∧ w'.cell? ⟨w.heap.size, 0, none⟩ = some (.int .i64 u) ∧ w'.cell? ⟨w.heap.size, 1, none⟩ = some (.int .i64 v)) (first | exact ⟨(Below.refl _ _).drew, K0.out _ (Below.refl _ _).drew⟩ | exact ⟨hbS, K0.out _ hbS⟩) (first | (go_at_call 94; refine (HS.out _).mono ?_; rintro e w1 ⟨rfl, hb1⟩; have hbS : Below (w.heap.size + 1) (w.alloc (.cells #[.int .i64 u, .int .i64 v] 131)) w1 := (Below.refl _ _).drew.trans (hb1.mono (by simp))))
  go_wp2
  go_ret2
  exact ⟨rfl, ((Below.refl _ _).alloc (Nat.le_refl _) _).trans (hbS.mono (by omega))⟩

set_option maxRecDepth 100000 in
set_option maxHeartbeats 1000000 in
theorem join_no (u v : Int) (w : World) (h : ¬ (high u = true ∧ low v = true)) :
    Calls Tryd.prog 134 #[.agg #[.int .i64 u, .int .i64 v]] w fun e w' => e = .returned (.tuple #[.int .i64 0, .bool false]) ∧ Below w.heap.size w w' := by
  have Hh := Lib.hid h
  clear h
  have hnq := neq2int
  have heg := eqg
  go_enter Tryd.func134, Tryd.ntmps134
  go_wp2_with fail
  generalize wrap64 (wrap64 (65536 + wrap64 (wrap64 (u - 55296) * 1024)) + wrap64 (v - 56320)) = C
  have hbA : Below w.heap.size w (w.alloc (.cells #[.int .i64 u, .int .i64 v] 131)) := (Below.refl _ _).alloc (Nat.le_refl _) _
  by_cases h1 : C < 65536
  · go_quiet (fail)
    go_wp2
    go_ret2
    exact ⟨rfl, below_drewN hbA _⟩
  have hn1 : decide (C < 65536) = false := by simp; omega
  by_cases h2 : 1114111 < C
  · go_quiet (fail)
    go_wp2
    go_ret2
    exact ⟨rfl, below_drewN hbA _⟩
  have hn2 : decide (1114111 < C) = false := by simp; omega
  have hc1 : 65536 ≤ C := by omega
  have hc2 : C ≤ 1114111 := by omega
  obtain ⟨x, hx⟩ : ∃ x, x = 55296 + (C - 65536) / 1024 := ⟨_, rfl⟩
  obtain ⟨y, hy⟩ : ∃ y, y = 56320 + (C - 65536) % 1024 := ⟨_, rfl⟩
  have hne : (!(x == u && y == v)) = true := by
    by_cases e1 : x = u ∧ y = v
    · exact absurd ⟨by simp [high]; omega, by simp [low]; omega⟩ Hh.out
    · simp; omega
  have hnq2 := fun w => (hnq x y u v w).trans (by rw [hne])
  have Hs : ∀ W : World, Calls Tryd.prog 94 #[.int .i64 C] W fun e w' => e = .returned (.agg #[.int .i64 x, .int .i64 y]) ∧ Below W.heap.size W w' := fun W =>
    (split_any _ W hc1 hc2).mono fun e w' ⟨h1, h2⟩ => ⟨by rw [h1, hx, hy], h2⟩
  have HS := Lib.hid Hs
  clear Hs hnq hx hy h1 h2
  have k0 : ∀ w' : World, Below (w.heap.size + 1) (w.alloc (.cells #[.int .i64 u, .int .i64 v] 131)) w' → w'.cell? ⟨w.heap.size, 0, none⟩ = some (.int .i64 u) ∧ w'.cell? ⟨w.heap.size, 1, none⟩ = some (.int .i64 v) := fun w' hb => by
    have := (Blk.new w 131 #[.int .i64 u, .int .i64 v]).below hb (by omega)
    exact ⟨this.cell 0, this.cell 1⟩
  have K0 := Lib.hid k0
  clear k0
  go_region_held3 (fun w' => Below (w.heap.size + 1) (w.alloc (.cells #[.int .i64 u, .int .i64 v] 131)) w' ∧ w'.cell? ⟨w.heap.size, 0, none⟩ = some (.int .i64 u) ∧ w'.cell? ⟨w.heap.size, 1, none⟩ = some (.int .i64 v)) (first | exact ⟨(Below.refl _ _).drew, K0.out _ (Below.refl _ _).drew⟩ | exact ⟨hbS, K0.out _ hbS⟩) (first | (go_at_call 94; refine (HS.out _).mono ?_; rintro e w1 ⟨rfl, hb1⟩; have hbS : Below (w.heap.size + 1) (w.alloc (.cells #[.int .i64 u, .int .i64 v] 131)) w1 := (Below.refl _ _).drew.trans (hb1.mono (by simp))))
  go_wp2
  go_ret2
  exact ⟨rfl, hbA.trans (hbS.mono (by omega))⟩

theorem add_succ (a : Addr) (n : Nat) : a.add (n + 1) = ⟨a.block, a.off + (n + 1), none⟩ := rfl
def bmp (u : Int) : Bool := decide ((0 ≤ u ∧ u ≤ 65535) ∧ ¬ (55296 ≤ u ∧ u ≤ 57343))
def dec16 (p : Int) : Nat → List Int → Except Nat (List Int)
  | _, [] => .ok []
  | i, [u] => if bmp u = true then .ok [u] else if p = 1 then .error i else .ok (inst16 u p)
  | i, u :: v :: t =>
    if bmp u = true then pre [u] (dec16 p (i + 1) (v :: t))
    else if high u = true ∧ low v = true then pre [jn u v] (dec16 p (i + 2) t)
    else if p = 1 then .error i else pre (inst16 u p) (dec16 p (i + 1) (v :: t))
def decR (l : List Int) (p : Int) : List Int × Int × Int := if knownB p = true then outR (dec16 p 0 l) else ([], 8, 0)

theorem dec_bmp {p : Int} {i : Nat} {u : Int} {t : List Int} (h : bmp u = true) : dec16 p i (u :: t) = pre [u] (dec16 p (i + 1) t) := by
  cases t with
  | nil => simp [dec16, h, pre]
  | cons v t => rw [dec16, if_pos h]
theorem dec_pair {p : Int} {i : Nat} {u v : Int} {t : List Int} (h : bmp u = false) (h2 : high u = true ∧ low v = true) : dec16 p i (u :: v :: t) = pre [jn u v] (dec16 p (i + 2) t) := by
  rw [dec16, if_neg (by simp [h]), if_pos h2]
theorem dec_bad {p : Int} {i : Nat} {u : Int} {t : List Int} (h : bmp u = false) (h2 : ∀ v, t.head? = some v → ¬ (high u = true ∧ low v = true)) :
    dec16 p i (u :: t) = if p = 1 then .error i else pre (inst16 u p) (dec16 p (i + 1) t) := by
  cases t with
  | nil => simp [dec16, h, pre]
  | cons v t => rw [dec16, if_neg (by simp [h]), if_neg (h2 v rfl)]

def DecRel (w : World) (l : List Int) (p : Int) (v i : Value) (wr : World) : Prop :=
  ∃ (k : Nat) (out : List Int), k ≤ l.length ∧ i = .int .i64 (k : Int) ∧ out.length ≤ 10 * k ∧ dec16 p 0 l = pre out (dec16 p k (l.drop k)) ∧
    wr.ownsRow (w.heap.size + 1) 3 1 v out.length (out.map iv) ∧ fltB wr w.heap.size 0 0 ∧ Below w.heap.size w wr

theorem dec_step {w w1 w2 : World} {l : List Int} {p : Int} {k j : Nat} {out add : List Int} {v2 : Value} (hj : 1 ≤ j) (hk : k + j ≤ l.length) (hol : out.length ≤ 10 * k) (hal : add.length ≤ 10)
    (he : dec16 p 0 l = pre out (dec16 p k (l.drop k))) (hs : dec16 p k (l.drop k) = pre add (dec16 p (k + j) (l.drop (k + j))))
    (hF : fltB w1 w.heap.size 0 0) (hb : Below w.heap.size w w1) (hB : Below (w.heap.size + 1) w1 w2) {i : Value} (hi : i = .int .i64 ((k + j : Nat) : Int))
    (ho : w2.ownsRow (w.heap.size + 1) 3 1 v2 (out.length + add.length) (out.map iv ++ add.map iv)) : DecRel w l p v2 i w2 := by
  refine ⟨k + j, out ++ add, by omega, hi, by simp; omega, ?_, by simpa using ho, Blk.below hF hB (by omega), hb.trans (hB.mono (by omega))⟩
  rw [he, hs, pre_pre]

set_option maxRecDepth 100000 in
set_option maxHeartbeats 4000000 in
theorem decode_any (B n cap : Nat) (A : Option Addr) (l : List Int) (p : Int) (w : World) (h : Reads w B 1 A n (l.map iv)) (hB : B ≤ w.heap.size) (hn : n ≤ 100000) (hd : Dig w) :
    Calls Tryd.prog 133 #[.slice A n cap, .int .i64 p] w fun e w' => ∃ v, e = .returned (.tuple #[v, .agg #[.int .i64 (decR l p).2.1, .int .i64 (decR l p).2.2]]) ∧
      w'.ownsRow (w.heap.size + 1) 3 1 v (decR l p).1.length ((decR l p).1.map iv) ∧ Below w.heap.size w w' := by
  obtain ⟨i0, hi, hz0, hz1, hz2⟩ := info_parts Tryd.info3
  have hl : l.length = n := by have := h.1; simpa using this
  cases hkn : knownB p with
  | false =>
    have He := Lib.hid (show decR l p = ([], 8, 0) by simp [decR, hkn])
    have Hk := Lib.hid hkn
    clear hkn hl hd
    go_enter Tryd.func133, Tryd.ntmps133
    go_wp2_with fail
    refine (known_any p _).mono ?_
    rintro e w1 ⟨rfl, rfl⟩
    rw [Hk.out]
    go_wp2
    refine bodyPost_ret (v := .tuple #[.slice none 0 0, .agg #[.int .i64 8, .int .i64 0]]) (by simp [results, Tryd.results133, go_sem]) rfl ⟨_, by rw [He.out], by rw [He.out]; exact World.ownsRow_nil _ _ _ _, ?_⟩
    exact (Below.refl _ _).alloc (Nat.le_refl _) _
  | true =>
    have He := Lib.hid (show decR l p = outR (dec16 p 0 l) by simp [decR, hkn])
    have Hk := Lib.hid hkn
    have Hd := Lib.hid hd
    have Hl := Lib.hid hl
    clear hkn hl hd
    go_enter Tryd.func133, Tryd.ntmps133
    go_wp2_with fail
    refine (known_any p _).mono ?_
    rintro e w1 ⟨rfl, rfl⟩
    rw [Hk.out]
    go_wp2
    go_loopw [6, 7] (fun v i wr => DecRel w l p v i wr) (fun _ i _ => n - (intOf i).toNat)
    case atStart => exact ⟨0, [], Nat.zero_le _, rfl, by simp, by rw [pre_nil]; rfl, World.ownsRow_nil _ _ _ _, Blk.new _ _ _, (Below.refl _ _).alloc (Nat.le_refl _) _⟩
    case round =>
      obtain ⟨k, out, hk, rfl, hol, he, ho, hF, hb⟩ := hrel
      rw [Hl.out] at hk
      have Hee := Lib.hid he
      have HF := Lib.hid hF
      have hsz : w.heap.size < wr.heap.size := Blk.lt hF
      clear he
      by_cases hlt : k < n
      · obtain ⟨ad, uu, rfl, hadB, hu, hcell⟩ := (h.below (hb.mono hB)).at_ hlt
        obtain ⟨u, hc, rfl⟩ := iv_at hu
        have Hdr := Lib.hid (drop_at hc)
        have hkl : k < l.length := by rw [Hl.out]; exact hlt
        clear hu hc
        have Hdw := Lib.hid (Hd.out.belowB hb Hd.out.lt)
        cases hbm : bmp u with
        | true =>
          have hub : (0 ≤ u ∧ u ≤ 65535) ∧ ¬ (55296 ≤ u ∧ u ≤ 57343) := by simp [bmp] at hbm; omega
          have Hsr := Lib.hid (show surrB u = false by simp [surrB]; omega)
          have Hst := Lib.hid (show dec16 p k (l.drop k) = pre [u] (dec16 p (k + 1) (l.drop (k + 1))) by rw [Hdr.out, dec_bmp hbm])
          have hu0 : 0 ≤ u := hub.1.1
          have hu1 : u ≤ 65535 := hub.1.2
          clear hbm hub
          go_wp2_with fail
          refine (surr_any u _).mono ?_
          rintro e w1 ⟨rfl, rfl⟩
          rw [Hsr.out]
          go_wp2_with (at_builtin; go_must (refine wpList_app1 rfl (.tmp 36) (.tmp 38) 22 rfl Tryd.underlying22 hi hz0 hz1 hz2 rfl (by omega) wr u6 _ _ rfl ho _ rfl rfl (by omega) (by omega) ?_); intro v3 w3 ho3 hB3 _)
          go_roundw
          case rel => exact dec_step (j := 1) (add := [u]) (w1 := wr) (by omega) (by omega) hol (by simp) Hee.out Hst.out HF.out hb hB3 (by go_num) (by simpa [iv] using ho3)
          case measure => simp [intOf]; omega
        | false =>
          by_cases hu0 : u < 0
          · by_cases hnext : k + 1 < n
            · obtain ⟨ad2, uv, e2, hadB2, hu2, hcell2⟩ := (h.below (hb.mono hB)).at_ hnext
              obtain rfl : ad2 = ad := by injection e2 with e2; exact e2.symm
              obtain ⟨v, hc2, rfl⟩ := iv_at hu2
              have Hdr2 := Lib.hid (drop_at hc2)
              have hnx : (k : Int) + 1 < (n : Int) := by omega
              rw [add_succ] at hcell2
              clear hu2 hc2 e2
              have Hno := Lib.hid (show ¬ (high u = true ∧ low v = true) by simp [high]; omega)
              have Hbad := Lib.hid (dec_bad (p := p) (i := k) hbm (t := l.drop (k + 1)) (by intro v' hv; rw [Hdr2.out] at hv; simp at hv; subst hv; exact Hno.out))
              clear hbm
              by_cases hp1 : p = 1
              · subst hp1
                have Herr := Lib.hid (show dec16 1 0 l = .error k by rw [Hee.out, Hdr.out, Hbad.out, if_pos rfl]; rfl)
                go_wp2_with fail
                refine (join_no u v wr Hno.out).mono ?_
                rintro e w2 ⟨rfl, hb2⟩
                have hs2 : w.heap.size < w2.heap.size := by have := hb2.size; omega
                have hF2' : fltB w2 w.heap.size 0 0 := Blk.below HF.out hb2 hsz
                have hbw2 : Below w.heap.size w w2 := hb.trans (hb2.mono (by omega))
                have ho2 := own_below ho hb2
                have Hd2 := Lib.hid (Hd.out.belowB hbw2 Hd.out.lt)
                have c0 := hF2'.cell 0
                have c1 := hF2'.cell 1
                have f0 := hF2'.frozen 0
                have f1 := hF2'.frozen 1
                go_wp2
                have hF2 := (hF2'.set_ 0 (.int .i64 9)).set_ 1 (.int .i64 (k : Int))
                have d0 := hF2.cell 0
                have d1 := hF2.cell 1
                have He2 := Lib.hid (show decR l 1 = ([], 9, (k : Int)) by rw [He.out, Herr.out]; rfl)
                refine bodyPost_ret (v := .tuple #[.slice none 0 0, .agg #[.int .i64 9, .int .i64 (k : Int)]]) (by simp [results, Tryd.results133, go_sem] at d0 d1 ⊢; simp [d0, d1]) rfl ⟨_, by rw [He2.out], by rw [He2.out]; exact World.ownsRow_nil _ _ _ _, ?_⟩
                exact (hbw2.setCell (Nat.le_refl _) _).setCell (Nat.le_refl _) _
              · have hp1' : (p == 1) = false := by simpa using hp1
                have Hst := Lib.hid (show dec16 p k (l.drop k) = pre (inst16 u p) (dec16 p (k + 1) (l.drop (k + 1))) by rw [Hdr.out, Hbad.out, if_neg hp1])
                have hil := inst16_len u p
                clear hp1
                go_wp2_with fail
                refine (join_no u v wr Hno.out).mono ?_
                rintro e w2 ⟨rfl, hb2⟩
                have hs2 : w.heap.size < w2.heap.size := by have := hb2.size; omega
                have hF2' : fltB w2 w.heap.size 0 0 := Blk.below HF.out hb2 hsz
                have hbw2 : Below w.heap.size w w2 := hb.trans (hb2.mono (by omega))
                have ho2 := own_below ho hb2
                have Hd2 := Lib.hid (Hd.out.belowB hbw2 Hd.out.lt)
                go_wp2_with fail
                refine (instead_any u p w2 Hd2.out).mono ?_
                rintro e w5 ⟨v5, rfl, ho5, hb5⟩
                obtain ⟨A5, c5, rfl, _, hr5⟩ := val_of_own ho5
                have ho6 := own_below ho2 hb5
                have hs5 : w.heap.size < w5.heap.size := by have := hb5.size; omega
                go_wp2_with (at_builtin; go_must (refine wpList_appR rfl (.tmp 67) (.tmp 70) 22 rfl Tryd.underlying22 hi hz0 hz1 hz2 rfl (by omega) w5 u6 _ _ rfl ho6 rfl hr5 (iv_one _) (by omega) (by omega) ?_); intro v3 w3 ho3 hB3 _)
                go_roundw
                case rel => exact dec_step (j := 1) (add := inst16 u p) (w1 := w5) (by omega) (by omega) hol hil Hee.out Hst.out (Blk.below hF2' hb5 hs2) (hbw2.trans (hb5.mono (by omega))) hB3 (by go_num) ho3
                case measure => simp [intOf]; omega
            · have hnx : ¬ (k : Int) + 1 < (n : Int) := by omega
              have Hbad := Lib.hid (dec_bad (p := p) (i := k) hbm (t := l.drop (k + 1)) (by intro v hv; rw [List.drop_of_length_le (by rw [Hl.out]; omega)] at hv; simp at hv))
              clear hbm hnext
              by_cases hp1 : p = 1
              · subst hp1
                have Herr := Lib.hid (show dec16 1 0 l = .error k by rw [Hee.out, Hdr.out, Hbad.out, if_pos rfl]; rfl)
                have c0 := HF.out.cell 0
                have c1 := HF.out.cell 1
                have f0 := HF.out.frozen 0
                have f1 := HF.out.frozen 1
                go_wp2
                have hF2 := (HF.out.set_ 0 (.int .i64 9)).set_ 1 (.int .i64 (k : Int))
                have d0 := hF2.cell 0
                have d1 := hF2.cell 1
                have He2 := Lib.hid (show decR l 1 = ([], 9, (k : Int)) by rw [He.out, Herr.out]; rfl)
                refine bodyPost_ret (v := .tuple #[.slice none 0 0, .agg #[.int .i64 9, .int .i64 (k : Int)]]) (by simp [results, Tryd.results133, go_sem] at d0 d1 ⊢; simp [d0, d1]) rfl ⟨_, by rw [He2.out], by rw [He2.out]; exact World.ownsRow_nil _ _ _ _, ?_⟩
                exact (hb.setCell (Nat.le_refl _) _).setCell (Nat.le_refl _) _
              · have hp1' : (p == 1) = false := by simpa using hp1
                have Hst := Lib.hid (show dec16 p k (l.drop k) = pre (inst16 u p) (dec16 p (k + 1) (l.drop (k + 1))) by rw [Hdr.out, Hbad.out, if_neg hp1])
                have hil := inst16_len u p
                clear hp1
                go_wp2_with fail
                refine (instead_any u p wr Hdw.out).mono ?_
                rintro e w5 ⟨v5, rfl, ho5, hb5⟩
                obtain ⟨A5, c5, rfl, _, hr5⟩ := val_of_own ho5
                have ho6 := own_below ho hb5
                have hs5 : w.heap.size < w5.heap.size := by have := hb5.size; omega
                go_wp2_with (at_builtin; go_must (refine wpList_appR rfl (.tmp 67) (.tmp 70) 22 rfl Tryd.underlying22 hi hz0 hz1 hz2 rfl (by omega) w5 u6 _ _ rfl ho6 rfl hr5 (iv_one _) (by omega) (by omega) ?_); intro v3 w3 ho3 hB3 _)
                go_roundw
                case rel => exact dec_step (j := 1) (add := inst16 u p) (w1 := w5) (by omega) (by omega) hol hil Hee.out Hst.out (Blk.below HF.out hb5 hsz) (hb.trans (hb5.mono (by omega))) hB3 (by go_num) ho3
                case measure => simp [intOf]; omega
          · by_cases hu1 : 65535 < u
            · have hu0' : 0 ≤ u := by omega
              clear hu0
              by_cases hnext : k + 1 < n
              · obtain ⟨ad2, uv, e2, hadB2, hu2, hcell2⟩ := (h.below (hb.mono hB)).at_ hnext
                obtain rfl : ad2 = ad := by injection e2 with e2; exact e2.symm
                obtain ⟨v, hc2, rfl⟩ := iv_at hu2
                have Hdr2 := Lib.hid (drop_at hc2)
                have hnx : (k : Int) + 1 < (n : Int) := by omega
                rw [add_succ] at hcell2
                clear hu2 hc2 e2
                have Hno := Lib.hid (show ¬ (high u = true ∧ low v = true) by simp [high]; omega)
                have Hbad := Lib.hid (dec_bad (p := p) (i := k) hbm (t := l.drop (k + 1)) (by intro v' hv; rw [Hdr2.out] at hv; simp at hv; subst hv; exact Hno.out))
                clear hbm
                by_cases hp1 : p = 1
                · subst hp1
                  have Herr := Lib.hid (show dec16 1 0 l = .error k by rw [Hee.out, Hdr.out, Hbad.out, if_pos rfl]; rfl)
                  go_wp2_with fail
                  refine (join_no u v wr Hno.out).mono ?_
                  rintro e w2 ⟨rfl, hb2⟩
                  have hs2 : w.heap.size < w2.heap.size := by have := hb2.size; omega
                  have hF2' : fltB w2 w.heap.size 0 0 := Blk.below HF.out hb2 hsz
                  have hbw2 : Below w.heap.size w w2 := hb.trans (hb2.mono (by omega))
                  have ho2 := own_below ho hb2
                  have Hd2 := Lib.hid (Hd.out.belowB hbw2 Hd.out.lt)
                  have c0 := hF2'.cell 0
                  have c1 := hF2'.cell 1
                  have f0 := hF2'.frozen 0
                  have f1 := hF2'.frozen 1
                  go_wp2
                  have hF2 := (hF2'.set_ 0 (.int .i64 9)).set_ 1 (.int .i64 (k : Int))
                  have d0 := hF2.cell 0
                  have d1 := hF2.cell 1
                  have He2 := Lib.hid (show decR l 1 = ([], 9, (k : Int)) by rw [He.out, Herr.out]; rfl)
                  refine bodyPost_ret (v := .tuple #[.slice none 0 0, .agg #[.int .i64 9, .int .i64 (k : Int)]]) (by simp [results, Tryd.results133, go_sem] at d0 d1 ⊢; simp [d0, d1]) rfl ⟨_, by rw [He2.out], by rw [He2.out]; exact World.ownsRow_nil _ _ _ _, ?_⟩
                  exact (hbw2.setCell (Nat.le_refl _) _).setCell (Nat.le_refl _) _
                · have hp1' : (p == 1) = false := by simpa using hp1
                  have Hst := Lib.hid (show dec16 p k (l.drop k) = pre (inst16 u p) (dec16 p (k + 1) (l.drop (k + 1))) by rw [Hdr.out, Hbad.out, if_neg hp1])
                  have hil := inst16_len u p
                  clear hp1
                  go_wp2_with fail
                  refine (join_no u v wr Hno.out).mono ?_
                  rintro e w2 ⟨rfl, hb2⟩
                  have hs2 : w.heap.size < w2.heap.size := by have := hb2.size; omega
                  have hF2' : fltB w2 w.heap.size 0 0 := Blk.below HF.out hb2 hsz
                  have hbw2 : Below w.heap.size w w2 := hb.trans (hb2.mono (by omega))
                  have ho2 := own_below ho hb2
                  have Hd2 := Lib.hid (Hd.out.belowB hbw2 Hd.out.lt)
                  go_wp2_with fail
                  refine (instead_any u p w2 Hd2.out).mono ?_
                  rintro e w5 ⟨v5, rfl, ho5, hb5⟩
                  obtain ⟨A5, c5, rfl, _, hr5⟩ := val_of_own ho5
                  have ho6 := own_below ho2 hb5
                  have hs5 : w.heap.size < w5.heap.size := by have := hb5.size; omega
                  go_wp2_with (at_builtin; go_must (refine wpList_appR rfl (.tmp 67) (.tmp 70) 22 rfl Tryd.underlying22 hi hz0 hz1 hz2 rfl (by omega) w5 u6 _ _ rfl ho6 rfl hr5 (iv_one _) (by omega) (by omega) ?_); intro v3 w3 ho3 hB3 _)
                  go_roundw
                  case rel => exact dec_step (j := 1) (add := inst16 u p) (w1 := w5) (by omega) (by omega) hol hil Hee.out Hst.out (Blk.below hF2' hb5 hs2) (hbw2.trans (hb5.mono (by omega))) hB3 (by go_num) ho3
                  case measure => simp [intOf]; omega
              · have hnx : ¬ (k : Int) + 1 < (n : Int) := by omega
                have Hbad := Lib.hid (dec_bad (p := p) (i := k) hbm (t := l.drop (k + 1)) (by intro v hv; rw [List.drop_of_length_le (by rw [Hl.out]; omega)] at hv; simp at hv))
                clear hbm hnext
                by_cases hp1 : p = 1
                · subst hp1
                  have Herr := Lib.hid (show dec16 1 0 l = .error k by rw [Hee.out, Hdr.out, Hbad.out, if_pos rfl]; rfl)
                  have c0 := HF.out.cell 0
                  have c1 := HF.out.cell 1
                  have f0 := HF.out.frozen 0
                  have f1 := HF.out.frozen 1
                  go_wp2
                  have hF2 := (HF.out.set_ 0 (.int .i64 9)).set_ 1 (.int .i64 (k : Int))
                  have d0 := hF2.cell 0
                  have d1 := hF2.cell 1
                  have He2 := Lib.hid (show decR l 1 = ([], 9, (k : Int)) by rw [He.out, Herr.out]; rfl)
                  refine bodyPost_ret (v := .tuple #[.slice none 0 0, .agg #[.int .i64 9, .int .i64 (k : Int)]]) (by simp [results, Tryd.results133, go_sem] at d0 d1 ⊢; simp [d0, d1]) rfl ⟨_, by rw [He2.out], by rw [He2.out]; exact World.ownsRow_nil _ _ _ _, ?_⟩
                  exact (hb.setCell (Nat.le_refl _) _).setCell (Nat.le_refl _) _
                · have hp1' : (p == 1) = false := by simpa using hp1
                  have Hst := Lib.hid (show dec16 p k (l.drop k) = pre (inst16 u p) (dec16 p (k + 1) (l.drop (k + 1))) by rw [Hdr.out, Hbad.out, if_neg hp1])
                  have hil := inst16_len u p
                  clear hp1
                  go_wp2_with fail
                  refine (instead_any u p wr Hdw.out).mono ?_
                  rintro e w5 ⟨v5, rfl, ho5, hb5⟩
                  obtain ⟨A5, c5, rfl, _, hr5⟩ := val_of_own ho5
                  have ho6 := own_below ho hb5
                  have hs5 : w.heap.size < w5.heap.size := by have := hb5.size; omega
                  go_wp2_with (at_builtin; go_must (refine wpList_appR rfl (.tmp 67) (.tmp 70) 22 rfl Tryd.underlying22 hi hz0 hz1 hz2 rfl (by omega) w5 u6 _ _ rfl ho6 rfl hr5 (iv_one _) (by omega) (by omega) ?_); intro v3 w3 ho3 hB3 _)
                  go_roundw
                  case rel => exact dec_step (j := 1) (add := inst16 u p) (w1 := w5) (by omega) (by omega) hol hil Hee.out Hst.out (Blk.below HF.out hb5 hsz) (hb.trans (hb5.mono (by omega))) hB3 (by go_num) ho3
                  case measure => simp [intOf]; omega
            · have hu0' : 0 ≤ u := by omega
              have hu1' : u ≤ 65535 := by omega
              have Hsr := Lib.hid (show surrB u = true by simp [bmp] at hbm; simp [surrB]; omega)
              clear hu0 hu1
              by_cases hnext : k + 1 < n
              · obtain ⟨ad2, uv, e2, hadB2, hu2, hcell2⟩ := (h.below (hb.mono hB)).at_ hnext
                obtain rfl : ad2 = ad := by injection e2 with e2; exact e2.symm
                obtain ⟨v, hc2, rfl⟩ := iv_at hu2
                have Hdr2 := Lib.hid (drop_at hc2)
                have hnx : (k : Int) + 1 < (n : Int) := by omega
                rw [add_succ] at hcell2
                clear hu2 hc2 e2
                by_cases hj : high u = true ∧ low v = true
                · have Hst := Lib.hid (show dec16 p k (l.drop k) = pre [jn u v] (dec16 p (k + 2) (l.drop (k + 2))) by rw [Hdr.out, Hdr2.out, dec_pair hbm hj])
                  have Hj := Lib.hid hj
                  clear hbm hj
                  go_wp2_with fail
                  refine (surr_any u _).mono ?_
                  rintro e w1 ⟨rfl, rfl⟩
                  rw [Hsr.out]
                  go_wp2_with fail
                  refine (join_yes u v wr Hj.out.1 Hj.out.2).mono ?_
                  rintro e w2 ⟨rfl, hb2⟩
                  have hs2 : w.heap.size < w2.heap.size := by have := hb2.size; omega
                  have ho2 := own_below ho hb2
                  go_wp2_with (at_builtin; go_must (refine wpList_app1 rfl (.tmp 57) (.tmp 59) 22 rfl Tryd.underlying22 hi hz0 hz1 hz2 rfl (by omega) w2 u6 _ _ rfl ho2 _ rfl rfl (by omega) (by omega) ?_); intro v3 w3 ho3 hB3 _)
                  go_roundw
                  case rel => exact dec_step (j := 2) (add := [jn u v]) (w1 := w2) (by omega) (by rw [Hl.out]; omega) hol (by simp) Hee.out Hst.out (Blk.below HF.out hb2 hsz) (hb.trans (hb2.mono (by omega))) hB3 (by go_num) (by simpa [iv] using ho3)
                  case measure => simp [intOf]; omega
                · have Hno := Lib.hid hj
                  clear hj
                  have Hbad := Lib.hid (dec_bad (p := p) (i := k) hbm (t := l.drop (k + 1)) (by intro v' hv; rw [Hdr2.out] at hv; simp at hv; subst hv; exact Hno.out))
                  clear hbm
                  by_cases hp1 : p = 1
                  · subst hp1
                    have Herr := Lib.hid (show dec16 1 0 l = .error k by rw [Hee.out, Hdr.out, Hbad.out, if_pos rfl]; rfl)
                    go_wp2_with fail
                    refine (surr_any u _).mono ?_
                    rintro e w1 ⟨rfl, rfl⟩
                    rw [Hsr.out]
                    go_wp2_with fail
                    refine (join_no u v wr Hno.out).mono ?_
                    rintro e w2 ⟨rfl, hb2⟩
                    have hs2 : w.heap.size < w2.heap.size := by have := hb2.size; omega
                    have hF2' : fltB w2 w.heap.size 0 0 := Blk.below HF.out hb2 hsz
                    have hbw2 : Below w.heap.size w w2 := hb.trans (hb2.mono (by omega))
                    have ho2 := own_below ho hb2
                    have Hd2 := Lib.hid (Hd.out.belowB hbw2 Hd.out.lt)
                    have c0 := hF2'.cell 0
                    have c1 := hF2'.cell 1
                    have f0 := hF2'.frozen 0
                    have f1 := hF2'.frozen 1
                    go_wp2
                    have hF2 := (hF2'.set_ 0 (.int .i64 9)).set_ 1 (.int .i64 (k : Int))
                    have d0 := hF2.cell 0
                    have d1 := hF2.cell 1
                    have He2 := Lib.hid (show decR l 1 = ([], 9, (k : Int)) by rw [He.out, Herr.out]; rfl)
                    refine bodyPost_ret (v := .tuple #[.slice none 0 0, .agg #[.int .i64 9, .int .i64 (k : Int)]]) (by simp [results, Tryd.results133, go_sem] at d0 d1 ⊢; simp [d0, d1]) rfl ⟨_, by rw [He2.out], by rw [He2.out]; exact World.ownsRow_nil _ _ _ _, ?_⟩
                    exact (hbw2.setCell (Nat.le_refl _) _).setCell (Nat.le_refl _) _
                  · have hp1' : (p == 1) = false := by simpa using hp1
                    have Hst := Lib.hid (show dec16 p k (l.drop k) = pre (inst16 u p) (dec16 p (k + 1) (l.drop (k + 1))) by rw [Hdr.out, Hbad.out, if_neg hp1])
                    have hil := inst16_len u p
                    clear hp1
                    go_wp2_with fail
                    refine (surr_any u _).mono ?_
                    rintro e w1 ⟨rfl, rfl⟩
                    rw [Hsr.out]
                    go_wp2_with fail
                    refine (join_no u v wr Hno.out).mono ?_
                    rintro e w2 ⟨rfl, hb2⟩
                    have hs2 : w.heap.size < w2.heap.size := by have := hb2.size; omega
                    have hF2' : fltB w2 w.heap.size 0 0 := Blk.below HF.out hb2 hsz
                    have hbw2 : Below w.heap.size w w2 := hb.trans (hb2.mono (by omega))
                    have ho2 := own_below ho hb2
                    have Hd2 := Lib.hid (Hd.out.belowB hbw2 Hd.out.lt)
                    go_wp2_with fail
                    refine (instead_any u p w2 Hd2.out).mono ?_
                    rintro e w5 ⟨v5, rfl, ho5, hb5⟩
                    obtain ⟨A5, c5, rfl, _, hr5⟩ := val_of_own ho5
                    have ho6 := own_below ho2 hb5
                    have hs5 : w.heap.size < w5.heap.size := by have := hb5.size; omega
                    go_wp2_with (at_builtin; go_must (refine wpList_appR rfl (.tmp 67) (.tmp 70) 22 rfl Tryd.underlying22 hi hz0 hz1 hz2 rfl (by omega) w5 u6 _ _ rfl ho6 rfl hr5 (iv_one _) (by omega) (by omega) ?_); intro v3 w3 ho3 hB3 _)
                    go_roundw
                    case rel => exact dec_step (j := 1) (add := inst16 u p) (w1 := w5) (by omega) (by omega) hol hil Hee.out Hst.out (Blk.below hF2' hb5 hs2) (hbw2.trans (hb5.mono (by omega))) hB3 (by go_num) ho3
                    case measure => simp [intOf]; omega
              · have hnx : ¬ (k : Int) + 1 < (n : Int) := by omega
                have Hbad := Lib.hid (dec_bad (p := p) (i := k) hbm (t := l.drop (k + 1)) (by intro v hv; rw [List.drop_of_length_le (by rw [Hl.out]; omega)] at hv; simp at hv))
                clear hbm hnext
                by_cases hp1 : p = 1
                · subst hp1
                  have Herr := Lib.hid (show dec16 1 0 l = .error k by rw [Hee.out, Hdr.out, Hbad.out, if_pos rfl]; rfl)
                  go_wp2_with fail
                  refine (surr_any u _).mono ?_
                  rintro e w1 ⟨rfl, rfl⟩
                  rw [Hsr.out]
                  have c0 := HF.out.cell 0
                  have c1 := HF.out.cell 1
                  have f0 := HF.out.frozen 0
                  have f1 := HF.out.frozen 1
                  go_wp2
                  have hF2 := (HF.out.set_ 0 (.int .i64 9)).set_ 1 (.int .i64 (k : Int))
                  have d0 := hF2.cell 0
                  have d1 := hF2.cell 1
                  have He2 := Lib.hid (show decR l 1 = ([], 9, (k : Int)) by rw [He.out, Herr.out]; rfl)
                  refine bodyPost_ret (v := .tuple #[.slice none 0 0, .agg #[.int .i64 9, .int .i64 (k : Int)]]) (by simp [results, Tryd.results133, go_sem] at d0 d1 ⊢; simp [d0, d1]) rfl ⟨_, by rw [He2.out], by rw [He2.out]; exact World.ownsRow_nil _ _ _ _, ?_⟩
                  exact (hb.setCell (Nat.le_refl _) _).setCell (Nat.le_refl _) _
                · have hp1' : (p == 1) = false := by simpa using hp1
                  have Hst := Lib.hid (show dec16 p k (l.drop k) = pre (inst16 u p) (dec16 p (k + 1) (l.drop (k + 1))) by rw [Hdr.out, Hbad.out, if_neg hp1])
                  have hil := inst16_len u p
                  clear hp1
                  go_wp2_with fail
                  refine (surr_any u _).mono ?_
                  rintro e w1 ⟨rfl, rfl⟩
                  rw [Hsr.out]
                  go_wp2_with fail
                  refine (instead_any u p wr Hdw.out).mono ?_
                  rintro e w5 ⟨v5, rfl, ho5, hb5⟩
                  obtain ⟨A5, c5, rfl, _, hr5⟩ := val_of_own ho5
                  have ho6 := own_below ho hb5
                  have hs5 : w.heap.size < w5.heap.size := by have := hb5.size; omega
                  go_wp2_with (at_builtin; go_must (refine wpList_appR rfl (.tmp 67) (.tmp 70) 22 rfl Tryd.underlying22 hi hz0 hz1 hz2 rfl (by omega) w5 u6 _ _ rfl ho6 rfl hr5 (iv_one _) (by omega) (by omega) ?_); intro v3 w3 ho3 hB3 _)
                  go_roundw
                  case rel => exact dec_step (j := 1) (add := inst16 u p) (w1 := w5) (by omega) (by omega) hol hil Hee.out Hst.out (Blk.below HF.out hb5 hsz) (hb.trans (hb5.mono (by omega))) hB3 (by go_num) ho3
                  case measure => simp [intOf]; omega
      · have He2 := Lib.hid (show decR l p = (out, 0, 0) by
          rw [He.out, Hee.out, List.drop_of_length_le (by rw [Hl.out]; omega), dec16]; simp [pre, outR])
        have c0 := hF.cell 0
        have c1 := hF.cell 1
        have f0 := hF.frozen 0
        have f1 := hF.frozen 1
        have hF2 := (hF.set_ 0 (.int .i64 0)).set_ 1 (.int .i64 0)
        have d0 := hF2.cell 0
        have d1 := hF2.cell 1
        obtain ⟨A1, c2, rfl, _, hr1⟩ := val_of_own ho
        go_wp2
        refine bodyPost_ret (v := .tuple #[.slice A1 out.length c2, .agg #[.int .i64 0, .int .i64 0]]) (by simp [results, Tryd.results133, go_sem] at d0 d1 ⊢; simp [d0, d1]) rfl ⟨_, by rw [He2.out], ?_, ?_⟩
        · rw [He2.out]
          exact ownsRow_setCell_below (ownsRow_setCell_below ho (by simp) _) (by simp) _
        · exact (hb.setCell (Nat.le_refl _) _).setCell (Nat.le_refl _) _
end Go.Proofs.YtbcbmmgfdobdiaaDoor
