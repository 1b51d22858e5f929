/- utf16text.Encode. -/
import Derived.Test.YtbcbmmgfdobdiaaDoorU16
namespace Go.Proofs.YtbcbmmgfdobdiaaDoor
open Go.RowKit

def pre (xs : List Int) : Except Nat (List Int) → Except Nat (List Int)
  | .error e => .error e
  | .ok ys => .ok (xs ++ ys)
theorem pre_pre (xs ys : List Int) (r : Except Nat (List Int)) : pre xs (pre ys r) = pre (xs ++ ys) r := by
  cases r <;> simp [pre]
theorem pre_nil (r : Except Nat (List Int)) : pre [] r = r := by cases r <;> simp [pre]

def enc16 (p : Int) : Nat → List Int → Except Nat (List Int)
  | _, [] => .ok []
  | i, c :: l => if scalB c = true then pre (form16 c) (enc16 p (i + 1) l) else if p = 1 then .error i else pre (inst16 c p) (enc16 p (i + 1) l)
def outR : Except Nat (List Int) → List Int × Int × Int
  | .ok o => (o, 0, 0)
  | .error i => ([], 9, (i : Int))
/-- what Encode returns: the units, the error, its place -/
def encR (l : List Int) (p : Int) : List Int × Int × Int := if knownB p = true then outR (enc16 p 0 l) else ([], 8, 0)

theorem enc16_len (p : Int) : ∀ (l : List Int) (i : Nat) (o : List Int), enc16 p i l = .ok o → o.length ≤ 10 * l.length := by
  intro l
  induction l with
  | nil => intro i o h; simp [enc16] at h; subst h; simp
  | cons c l ih =>
    intro i o h
    rw [enc16] at h
    have h1 := form16_len c
    have h2 := inst16_len c p
    split at h
    · cases hr : enc16 p (i + 1) l with
      | error e => rw [hr] at h; simp [pre] at h
      | ok ys => rw [hr] at h; simp [pre] at h; subst h; have := ih _ _ hr; simp; omega
    · split at h
      · cases h
      · cases hr : enc16 p (i + 1) l with
        | error e => rw [hr] at h; simp [pre] at h
        | ok ys => rw [hr] at h; simp [pre] at h; subst h; have := ih _ _ hr; simp; omega

def fltB (w : World) (N : Nat) (e a : Int) : Prop := Blk w N 37 #[.int .i64 e, .int .i64 a]

def EncRel (w : World) (l : List Int) (p : Int) (v i : Value) (wr : World) : Prop :=
  ∃ (k : Nat) (out : List Int), k ≤ l.length ∧ i = .int .i64 (k : Int) ∧ out.length ≤ 10 * k ∧ enc16 p 0 l = pre out (enc16 p k (l.drop k)) ∧
    wr.ownsRow (w.heap.size + 1) 3 1 v out.length (out.map iv) ∧ fltB wr w.heap.size 0 0 ∧ Below w.heap.size w wr

theorem enc_step {w w1 w2 : World} {l : List Int} {p : Int} {k : Nat} {out add : List Int} {v2 : Value} (hk : k < l.length) (hol : out.length ≤ 10 * k) (hal : add.length ≤ 10)
    (he : enc16 p 0 l = pre out (enc16 p k (l.drop k))) (hs : enc16 p k (l.drop k) = pre add (enc16 p (k + 1) (l.drop (k + 1))))
    (hF : fltB w1 w.heap.size 0 0) (hb : Below w.heap.size w w1) (hB : Below (w.heap.size + 1) w1 w2)
    (ho : w2.ownsRow (w.heap.size + 1) 3 1 v2 (out.length + add.length) (out.map iv ++ add.map iv)) : EncRel w l p v2 (.int .i64 ((k : Int) + 1)) w2 := by
  refine ⟨k + 1, out ++ add, by omega, by congr 1, by simp; omega, ?_, by simpa using ho, Blk.below hF hB (by omega), hb.trans (hB.mono (by omega))⟩
  rw [he, hs, pre_pre]

set_option maxRecDepth 100000 in
set_option maxHeartbeats 2000000 in
theorem encode_any (B n cap : Nat) (A : Option Addr) (l : List Int) (p : Int) (w : World) (h : Reads w B 1 A n (l.map iv)) (hB : B ≤ w.heap.size) (hn : n ≤ 100000) (hd : Dig w) :
    Calls Tryd.prog 73 #[.slice A n cap, .int .i64 p] w fun e w' => ∃ v, e = .returned (.tuple #[v, .agg #[.int .i64 (encR l p).2.1, .int .i64 (encR l p).2.2]]) ∧
      w'.ownsRow (w.heap.size + 1) 3 1 v (encR l p).1.length ((encR l p).1.map iv) ∧ Below w.heap.size w w' := by
  obtain ⟨i0, hi, hz0, hz1, hz2⟩ := info_parts Tryd.info3
  have hl : l.length = n := by have := h.1; simpa using this
  cases hkn : knownB p with
  | false =>
    have He := Lib.hid (show encR l p = ([], 8, 0) by simp [encR, hkn])
    have Hk := Lib.hid hkn
    clear hkn hl hd
    go_enter Tryd.func73, Tryd.ntmps73
    go_wp2_with fail
    refine (known_any p _).mono ?_
    rintro e w1 ⟨rfl, rfl⟩
    rw [Hk.out]
    go_wp2
    refine bodyPost_ret (v := .tuple #[.slice none 0 0, .agg #[.int .i64 8, .int .i64 0]]) (by simp [results, Tryd.results73, go_sem]) rfl ⟨_, by rw [He.out], by rw [He.out]; exact World.ownsRow_nil _ _ _ _, ?_⟩
    exact (Below.refl _ _).alloc (Nat.le_refl _) _
  | true =>
    have He := Lib.hid (show encR l p = outR (enc16 p 0 l) by simp [encR, hkn])
    have Hk := Lib.hid hkn
    have Hd := Lib.hid hd
    have Hl := Lib.hid hl
    clear hkn hl hd
    go_enter Tryd.func73, Tryd.ntmps73
    go_wp2_with fail
    refine (known_any p _).mono ?_
    rintro e w1 ⟨rfl, rfl⟩
    rw [Hk.out]
    go_wp2
    go_loopw [6, 16] (fun v i wr => EncRel w l p v i wr) (fun _ i _ => n - (intOf i).toNat)
    case atStart => exact ⟨0, [], Nat.zero_le _, rfl, by simp, by rw [pre_nil]; rfl, World.ownsRow_nil _ _ _ _, Blk.new _ _ _, (Below.refl _ _).alloc (Nat.le_refl _) _⟩
    case round =>
      obtain ⟨k, out, hk, rfl, hol, he, ho, hF, hb⟩ := hrel
      rw [Hl.out] at hk
      have Hee := Lib.hid he
      have HF := Lib.hid hF
      have hsz : w.heap.size < wr.heap.size := Blk.lt hF
      clear he
      by_cases hlt : k < n
      · obtain ⟨ad, u, rfl, hadB, hu, hcell⟩ := (h.below (hb.mono hB)).at_ hlt
        obtain ⟨c, hc, rfl⟩ := iv_at hu
        have Hdr := Lib.hid (drop_at hc)
        have hkl : k < l.length := by rw [Hl.out]; exact hlt
        clear hu hc
        cases hsc : scalB c with
        | true =>
          have Hsc := Lib.hid hsc
          have hcb : 0 ≤ c ∧ c ≤ 1114111 := by simp [scalB] at hsc; omega
          obtain ⟨hc0, hc1⟩ := hcb
          have Hst := Lib.hid (show enc16 p k (l.drop k) = pre (form16 c) (enc16 p (k + 1) (l.drop (k + 1))) by rw [Hdr.out, enc16, if_pos hsc])
          clear hsc
          by_cases hbig : 65535 < c
          · have Hf := Lib.hid (show form16 c = [55296 + (c - 65536) / 1024, 56320 + (c - 65536) % 1024] by rw [form16, if_pos hbig]; rfl)
            go_wp2_with fail
            refine (scalar_any c _).mono ?_
            rintro e w1 ⟨rfl, rfl⟩
            rw [Hsc.out]
            go_wp2_with fail
            refine (split_any c _ (by omega) hc1).mono ?_
            rintro e w1 ⟨rfl, hb1⟩
            generalize 55296 + (c - 65536) / 1024 = x at Hf
            generalize 56320 + (c - 65536) % 1024 = y at Hf
            have hs1 : w.heap.size < w1.heap.size := by have := hb1.size; omega
            have hr2 : Reads ((w1.alloc (.cells #[.int .i64 x, .int .i64 y] 131)).alloc (.cells #[.int .i64 x, .int .i64 y] 3)) (w1.heap.size + 2) 1 (some ⟨w1.heap.size + 1, 0, none⟩) 2 [.int .i64 x, .int .i64 y] := by
              have := reads_new (w1.alloc (.cells #[.int .i64 x, .int .i64 y] 131)) #[.int .i64 x, .int .i64 y] 3 [.int .i64 x, .int .i64 y] rfl
              simpa using this
            have ho2 := ((own_below ho hb1).alloc (.cells #[.int .i64 x, .int .i64 y] 131)).alloc (.cells #[.int .i64 x, .int .i64 y] 3)
            go_wp2_with (at_builtin; go_must (refine wpList_appR rfl (.tmp 35) (.tmp 40) 22 rfl Tryd.underlying22 hi hz0 hz1 hz2 rfl (by omega) _ u6 _ _ rfl ho2 rfl hr2 (by simp [Value.oneCell']) (by omega) (by simp; omega) ?_); intro v3 w3 ho3 hB3 _)
            go_roundw
            case rel =>
              have hF1 : fltB w1 w.heap.size 0 0 := Blk.below HF.out hb1 hsz
              exact enc_step (add := [x, y]) (w1 := (w1.alloc (.cells #[.int .i64 x, .int .i64 y] 131)).alloc (.cells #[.int .i64 x, .int .i64 y] 3)) hkl hol (by simp) Hee.out (by rw [Hst.out, Hf.out]) ((Blk.alloc hF1 _).alloc _) (((hb.trans (hb1.mono (by omega))).alloc (by omega) _).alloc (by simp; omega) _) hB3 (by simpa [iv] using ho3)
            case measure => simp [intOf]; omega
          · have hbig' : c ≤ 65535 := by omega
            have Hf := Lib.hid (show form16 c = [c] by rw [form16, if_neg hbig])
            clear hbig
            go_wp2_with fail
            refine (scalar_any c _).mono ?_
            rintro e w1 ⟨rfl, rfl⟩
            rw [Hsc.out]
            go_wp2_with fail
            refine (scalar_any c _).mono ?_
            rintro e w1 ⟨rfl, rfl⟩
            rw [Hsc.out]
            go_wp2_with (at_builtin; go_must (refine wpList_app1 rfl (.tmp 45) (.tmp 47) 22 rfl Tryd.underlying22 hi hz0 hz1 hz2 rfl (by omega) wr u6 _ _ rfl ho _ rfl rfl (by omega) (by omega) ?_); intro v3 w3 ho3 hB3 _)
            go_roundw
            case rel => exact enc_step (add := [c]) (w1 := wr) hkl hol (by simp) Hee.out (by rw [Hst.out, Hf.out]) HF.out hb hB3 (by simpa [iv] using ho3)
            case measure => simp [intOf]; omega
        | false =>
          have Hsc := Lib.hid hsc
          by_cases hp1 : p = 1
          · subst hp1
            have Herr := Lib.hid (show enc16 1 0 l = .error k by rw [Hee.out, Hdr.out, enc16, if_neg (by simp [hsc]), if_pos rfl]; rfl)
            clear hsc
            go_wp2_with fail
            refine (scalar_any c _).mono ?_
            rintro e w1 ⟨rfl, rfl⟩
            rw [Hsc.out]
            go_wp2_with fail
            refine (scalar_any c _).mono ?_
            rintro e w1 ⟨rfl, rfl⟩
            rw [Hsc.out]
            have c0 := hF.cell 0
            have c1 := hF.cell 1
            have f0 := hF.frozen 0
            have f1 := hF.frozen 1
            go_wp2
            have hF2 := (hF.set_ 0 (.int .i64 9)).set_ 1 (.int .i64 (k : Int))
            have d0 := hF2.cell 0
            have d1 := hF2.cell 1
            have He2 := Lib.hid (show encR l 1 = ([], 9, (k : Int)) by rw [He.out, Herr.out]; rfl)
            refine bodyPost_ret (v := .tuple #[.slice none 0 0, .agg #[.int .i64 9, .int .i64 (k : Int)]]) (by simp [results, Tryd.results73, go_sem] at d0 d1 ⊢; simp [d0, d1]) rfl ⟨_, by rw [He2.out], by rw [He2.out]; exact World.ownsRow_nil _ _ _ _, ?_⟩
            exact (hb.setCell (Nat.le_refl _) _).setCell (Nat.le_refl _) _
          · have hp1' : (p == 1) = false := by simpa using hp1
            have Hst := Lib.hid (show enc16 p k (l.drop k) = pre (inst16 c p) (enc16 p (k + 1) (l.drop (k + 1))) by rw [Hdr.out, enc16, if_neg (by simp [hsc]), if_neg hp1])
            have hil := inst16_len c p
            have Hdw := Lib.hid (Hd.out.belowB hb Hd.out.lt)
            clear hsc hp1
            go_wp2_with fail
            refine (scalar_any c _).mono ?_
            rintro e w1 ⟨rfl, rfl⟩
            rw [Hsc.out]
            go_wp2_with fail
            refine (scalar_any c _).mono ?_
            rintro e w1 ⟨rfl, rfl⟩
            rw [Hsc.out]
            go_wp2_with fail
            refine (instead_any c p wr Hdw.out).mono ?_
            rintro e w1 ⟨v1, rfl, ho1, hb1⟩
            obtain ⟨A1, c1, rfl, _, hr1⟩ := val_of_own ho1
            have ho2 := own_below ho hb1
            have hs1 : w.heap.size < w1.heap.size := by have := hb1.size; omega
            go_wp2_with (at_builtin; go_must (refine wpList_appR rfl (.tmp 21) (.tmp 24) 22 rfl Tryd.underlying22 hi hz0 hz1 hz2 rfl (by omega) w1 u6 _ _ rfl ho2 rfl hr1 (iv_one _) (by omega) (by omega) ?_); intro v3 w3 ho3 hB3 _)
            go_roundw
            case rel => exact enc_step (add := inst16 c p) (w1 := w1) hkl hol hil Hee.out Hst.out (Blk.below HF.out hb1 hsz) (hb.trans (hb1.mono (by omega))) hB3 ho3
            case measure => simp [intOf]; omega
      · have He2 := Lib.hid (show encR l p = (out, 0, 0) by
          rw [He.out, Hee.out, List.drop_of_length_le (by rw [Hl.out]; omega), enc16]; simp [pre, outR])
        have c0 := hF.cell 0
        have c1 := hF.cell 1
        have f0 := hF.frozen 0
        have f1 := hF.frozen 1
        have hF2 := (hF.set_ 0 (.int .i64 0)).set_ 1 (.int .i64 0)
        have d0 := hF2.cell 0
        have d1 := hF2.cell 1
        obtain ⟨A1, c2, rfl, _, hr1⟩ := val_of_own ho
        go_wp2
        refine bodyPost_ret (v := .tuple #[.slice A1 out.length c2, .agg #[.int .i64 0, .int .i64 0]]) (by simp [results, Tryd.results73, go_sem] at d0 d1 ⊢; simp [d0, d1]) rfl ⟨_, by rw [He2.out], ?_, ?_⟩
        · rw [He2.out]
          exact ownsRow_setCell_below (ownsRow_setCell_below ho (by simp) _) (by simp) _
        · exact (hb.setCell (Nat.le_refl _) _).setCell (Nat.le_refl _) _
end Go.Proofs.YtbcbmmgfdobdiaaDoor
