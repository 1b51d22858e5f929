/- utf8text.Encode. -/
import Derived.Test.YtbcbmmgfdobdiaaDoorU8F
import Derived.Test.YtbcbmmgfdobdiaaDoorBld
namespace Go.Proofs.YtbcbmmgfdobdiaaDoor
open Go.RowKit

theorem IsB.stay {B b : Nat} {l : List UInt8} {w w' : World} (h : IsB B b l w) (hb : Below w.heap.size w w') : IsB B b l w' := by
  rcases h with h | h
  · obtain ⟨hB, v, hbk, hown, hne⟩ := h
    exact .inl ⟨hB, v, (hb.block b (Blk.lt hbk)).trans hbk, own_below hown hb, hne⟩
  · obtain ⟨hB, v, hbk, hown, hne⟩ := h
    exact .inr ⟨hB, v, (hb.block b (Blk.lt hbk)).trans hbk, own_below hown hb, hne⟩
theorem stayB {w w' : World} {g t : Nat} {cs : Array Value} (h : Blk w g t cs) (hb : Below w.heap.size w w') : Blk w' g t cs := h.below hb h.lt
theorem newB (w : World) (o : Obj) : Below w.heap.size w (w.alloc o) := (Below.refl _ _).alloc (Nat.le_refl _) _
def flt8 (w : World) (N : Nat) (e a : Int) : Prop := Blk w N 37 #[.int .i64 e, .int .i64 a]
def outS : Except Nat (List UInt8) → List UInt8 × Int × Int
  | .ok o => (o, 0, 0)
  | .error i => ([], 9, (i : Int))
def enc8R (l : List Int) (p : Int) : List UInt8 × Int × Int := if known8 p = true then outS (enc8 p 0 l) else ([], 8, 0)
theorem lost8_4 (c : Int) : lost8 c 4 = [92, 117, 123] ++ hexB c ++ [125] := by simp [lost8]
theorem lost8_3 (c : Int) : lost8 c 3 = [] := by simp [lost8]
theorem lost8_2 (c : Int) : lost8 c 2 = form8 65533 := by simp [lost8]
theorem pre8_nil_enc {l : List Int} {p : Int} : enc8 p 0 l = pre8 [] (enc8 p 0 (l.drop 0)) := by rw [pre8_nil]; rfl

def Enc8Rel (w : World) (l : List Int) (p : Int) (i : Value) (wr : World) : Prop :=
  ∃ (k : Nat) (out : List UInt8), k ≤ l.length ∧ i = .int .i64 (k : Int) ∧ out.length ≤ 10 * k ∧ Hid (enc8 p 0 l = pre8 out (enc8 p k (l.drop k))) ∧
    Hid (IsB (w.heap.size + 1) (w.heap.size + 1) out wr) ∧ Hid (flt8 wr w.heap.size 0 0) ∧ Hid (Below w.heap.size w wr)
theorem enc8_step {w w2 : World} {l : List Int} {p : Int} {k : Nat} {out add : List UInt8} (hk : k < l.length) (hol : out.length ≤ 10 * k) (hal : add.length ≤ 10)
    (he : enc8 p 0 l = pre8 out (enc8 p k (l.drop k))) (hs : enc8 p k (l.drop k) = pre8 add (enc8 p (k + 1) (l.drop (k + 1))))
    (hI : IsB (w.heap.size + 1) (w.heap.size + 1) (out ++ add) w2) (hF : flt8 w2 w.heap.size 0 0) (hb : Below w.heap.size w w2) : Enc8Rel w l p (.int .i64 ((k : Int) + 1)) w2 := by
  refine ⟨k + 1, out ++ add, by omega, by congr 1, by simp; omega, ?_, hI, hF, hb⟩
  show enc8 p 0 l = _
  rw [he, hs, pre8_pre8]
theorem isB_size {B b : Nat} {l : List UInt8} {w : World} (h : IsB B b l w) : b < w.heap.size := by
  rcases h with ⟨_, v, hbk, _⟩ | ⟨_, v, hbk, _⟩
  · exact Blk.lt hbk
  · exact Blk.lt hbk

set_option maxRecDepth 100000 in
set_option maxHeartbeats 4000000 in
theorem encode8_any (B n cap : Nat) (A : Option Addr) (l : List Int) (p : Int) (w : World) (h : Reads w B 1 A n (l.map iv)) (hB : B ≤ w.heap.size) (hn : n ≤ 100000) (hd : Dig w) :
    Calls Tryd.prog 72 #[.slice A n cap, .int .i64 p] w fun e w' => e = .returned (.tuple #[.string ⟨(enc8R l p).1.toArray⟩, .agg #[.int .i64 (enc8R l p).2.1, .int .i64 (enc8R l p).2.2]]) ∧ Below w.heap.size w w' := by
  have hl : l.length = n := by have := h.1; simpa using this
  cases hkn : known8 p with
  | false =>
    have He := Lib.hid (show enc8R l p = ([], 8, 0) by simp [enc8R, hkn])
    have Hk := Lib.hid hkn
    clear hkn hl hd
    go_enter Tryd.func72, Tryd.ntmps72
    go_wp2_with fail
    refine (known8_any p _).mono ?_
    rintro e w1 ⟨rfl, rfl⟩
    rw [Hk.out]
    go_wp2
    refine bodyPost_ret (v := .tuple #[.string ⟨#[]⟩, .agg #[.int .i64 8, .int .i64 0]]) (by simp [results, Tryd.results72, go_sem]) rfl ⟨by rw [He.out], ?_⟩
    exact (Below.refl _ _).alloc (Nat.le_refl _) _
  | true =>
    have He := Lib.hid (show enc8R l p = outS (enc8 p 0 l) by simp [enc8R, hkn])
    have hp : 1 ≤ p ∧ p ≤ 4 := by simpa [known8] using hkn
    obtain ⟨hp1, hp4⟩ := hp
    have Hk := Lib.hid hkn
    have Hd := Lib.hid hd
    have Hl := Lib.hid hl
    have H0 := Lib.hid h
    clear hkn hl hd h
    have hF0 : flt8 ((w.alloc (.cells #[.int .i64 0, .int .i64 0] 37)).alloc (.cells #[.pointer none, .slice none 0 0] 111)) w.heap.size 0 0 := (Blk.new w 37 #[.int .i64 0, .int .i64 0]).alloc _
    have hI0 : IsB (w.heap.size + 1) (w.heap.size + 1) [] ((w.alloc (.cells #[.int .i64 0, .int .i64 0] 37)).alloc (.cells #[.pointer none, .slice none 0 0] 111)) := by
      have := fresh_B (w.alloc (.cells #[.int .i64 0, .int .i64 0] 37))
      simpa using this
    have hb0 : Below w.heap.size w ((w.alloc (.cells #[.int .i64 0, .int .i64 0] 37)).alloc (.cells #[.pointer none, .slice none 0 0] 111)) := ((Below.refl _ _).alloc (Nat.le_refl _) _).alloc (by simp) _
    have HS := Lib.hid (show Enc8Rel w l p (.int .i64 0) _ from ⟨0, [], Nat.zero_le _, rfl, by simp, pre8_nil_enc, hI0, hF0, hb0⟩)
    clear hF0 hI0 hb0
    go_enter Tryd.func72, Tryd.ntmps72
    go_wp2_with fail
    refine (known8_any p _).mono ?_
    rintro e w1 ⟨rfl, rfl⟩
    rw [Hk.out]
    go_wp2_with fail
    go_loopw [15] (fun i wr => Enc8Rel w l p i wr) (fun i _ => n - (intOf i).toNat)
    case atStart => exact HS.out
    case round =>
      obtain ⟨k, out, hk, rfl, hol, Hee, HI, HF, Hb⟩ := hrel
      rw [Hl.out] at hk
      have hsz : w.heap.size + 1 < wr.heap.size := isB_size HI.out
      by_cases hlt : k < n
      · obtain ⟨ad, u, rfl, hadB, hu, hcell⟩ := (H0.out.below (Hb.out.mono hB)).at_ hlt
        obtain ⟨c, hc, rfl⟩ := iv_at hu
        have Hdr := Lib.hid (drop_at hc)
        have hkl : k < l.length := by rw [Hl.out]; exact hlt
        clear hu hc
        cases hsc : scalB c with
        | true =>
          have Hsc := Lib.hid hsc
          have hcb := scal_pos hsc
          have Hst := Lib.hid (show enc8 p k (l.drop k) = pre8 (form8 c.toNat) (enc8 p (k + 1) (l.drop (k + 1))) by rw [Hdr.out, enc8, if_pos hsc])
          clear hsc
          obtain ⟨cn, rfl⟩ := Int.eq_ofNat_of_zero_le hcb.1
          clear hcb
          rw [Int.toNat_natCast] at Hst
          have hfl := form8_le cn
          go_wp2_with fail
          refine (scalar_any (cn : Int) _).mono ?_
          rintro e w1 ⟨rfl, rfl⟩
          rw [Hsc.out]
          go_wp2_with fail
          refine (form8_any cn _ Hsc.out).mono ?_
          rintro e w2 ⟨rfl, hb2⟩
          generalize form8 cn = S at Hst hfl
          have hsz2 : w.heap.size + 1 ≤ w2.heap.size := by have := hb2.size; omega
          go_wp2_with fail
          refine (writeString_any (w.heap.size + 1) (w.heap.size + 1) out S w2 (HI.out.stay hb2) (by omega) hsz2).mono ?_
          rintro e w3 ⟨rfl, hI3, hb3⟩
          have HR := Lib.hid (enc8_step (add := S) hkl hol (by omega) Hee.out Hst.out hI3 (Blk.below (stayB HF.out hb2) hb3 (by omega)) (Hb.out.trans ((hb2.mono Hb.out.size).trans (hb3.mono (by omega)))))
          clear hI3 hb3 hb2
          go_wp2
          go_roundw
          case rel => exact HR.out
          case measure => simp [intOf]; omega
        | false =>
          have Hsc := Lib.hid hsc
          clear hsc
          by_cases hp1' : p = 1
          · subst hp1'
            have Herr := Lib.hid (show enc8R l 1 = ([], 9, (k : Int)) by rw [He.out, Hee.out, Hdr.out, enc8, Hsc.out]; rfl)
            have c0 := HF.out.cell 0
            have c1 := HF.out.cell 1
            have f0 := HF.out.frozen 0
            have f1 := HF.out.frozen 1
            have hF2 := (HF.out.set_ 0 (.int .i64 9)).set_ 1 (.int .i64 (k : Int))
            have d0 := hF2.cell 0
            have d1 := hF2.cell 1
            go_wp2_with fail
            refine (scalar_any c _).mono ?_
            rintro e w1 ⟨rfl, rfl⟩
            rw [Hsc.out]
            go_wp2
            refine bodyPost_ret (v := .tuple #[.string ⟨#[]⟩, .agg #[.int .i64 9, .int .i64 (k : Int)]]) (by simp [results, Tryd.results72, go_sem] at d0 d1 ⊢; simp [d0, d1]) rfl ⟨by rw [Herr.out], ?_⟩
            exact (Hb.out.setCell (by simp) _).setCell (by simp) _
          · have hp1n : (p == 1) = false := by simp; omega
            have Hst := Lib.hid (show enc8 p k (l.drop k) = pre8 (lost8 c p) (enc8 p (k + 1) (l.drop (k + 1))) by rw [Hdr.out, enc8, Hsc.out, if_neg (by simp), if_neg hp1'])
            by_cases hp2 : p = 2
            · subst hp2
              rw [lost8_2] at Hst
              have hfl := form8_le 65533
              go_wp2_with fail
              refine (scalar_any c _).mono ?_
              rintro e w1 ⟨rfl, rfl⟩
              rw [Hsc.out]
              go_wp2_with fail
              refine (form8_any 65533 _ (by decide)).mono ?_
              rintro e w2 ⟨rfl, hb2⟩
              generalize form8 65533 = S at Hst hfl
              have hsz2 : w.heap.size + 1 ≤ w2.heap.size := by have := hb2.size; omega
              go_wp2_with fail
              refine (writeString_any (w.heap.size + 1) (w.heap.size + 1) out S w2 (HI.out.stay hb2) (by omega) hsz2).mono ?_
              rintro e w3 ⟨rfl, hI3, hb3⟩
              have HR := Lib.hid (enc8_step (add := S) hkl hol (by omega) Hee.out Hst.out hI3 (Blk.below (stayB HF.out hb2) hb3 (by omega)) (Hb.out.trans ((hb2.mono Hb.out.size).trans (hb3.mono (by omega)))))
              clear hI3 hb3 hb2
              go_wp2
              go_roundw
              case rel => exact HR.out
              case measure => simp [intOf]; omega
            · have hp2n : (p == 2) = false := by simp; omega
              by_cases hp3 : p = 4
              · subst hp3
                rw [lost8_4] at Hst
                have hhl := hexB_len c
                go_wp2_with fail
                refine (scalar_any c _).mono ?_
                rintro e w1 ⟨rfl, rfl⟩
                rw [Hsc.out]
                go_wp2_with fail
                refine (hex_any c _ (Hd.out.below Hb.out)).mono ?_
                rintro e w2 ⟨rfl, hb2⟩
                generalize hexB c = X at Hst hhl
                have e1 : (⟨#[92, 117, 123]⟩ : ByteArray) ++ ⟨X.toArray⟩ = ⟨([92, 117, 123] ++ X).toArray⟩ := ByteArray.mk_append_mk [92, 117, 123] X
                have e2 : (⟨([92, 117, 123] ++ X).toArray⟩ : ByteArray) ++ ⟨#[125]⟩ = ⟨([92, 117, 123] ++ X ++ [125]).toArray⟩ := ByteArray.mk_append_mk _ [125]
                obtain ⟨S, hS⟩ : ∃ S, S = [92, 117, 123] ++ X ++ [125] := ⟨_, rfl⟩
                obtain ⟨S1, hS1⟩ : ∃ S, S = [92, 117, 123] ++ X := ⟨_, rfl⟩
                rw [← hS1] at e1 hS
                rw [← hS1, ← hS] at e2
                rw [← hS1, ← hS] at Hst
                have hSl : S.length ≤ 10 := by rw [hS, hS1]; simp; omega
                have hS1l : S1.length ≤ 9 := by rw [hS1]; simp; omega
                clear hS hS1
                have hsz2 : w.heap.size + 1 ≤ w2.heap.size := by have := hb2.size; omega
                go_wp2_with fail
                clear e1 e2
                refine (writeString_any (w.heap.size + 1) (w.heap.size + 1) out S w2 (HI.out.stay hb2) (by omega) hsz2).mono ?_
                rintro e w3 ⟨rfl, hI3, hb3⟩
                have HR := Lib.hid (enc8_step (add := S) hkl hol (by omega) Hee.out Hst.out hI3 (Blk.below (stayB HF.out hb2) hb3 (by omega)) (Hb.out.trans ((hb2.mono Hb.out.size).trans (hb3.mono (by omega)))))
                clear hI3 hb3 hb2
                go_wp2
                go_roundw
                case rel => exact HR.out
                case measure => simp [intOf]; omega
              · obtain rfl : p = 3 := by omega
                rw [lost8_3] at Hst
                clear hp3 hp2 hp1'
                have HR := Lib.hid (enc8_step (add := []) hkl hol (by simp) Hee.out Hst.out (by rw [List.append_nil]; exact HI.out) HF.out Hb.out)
                go_wp2_with fail
                refine (scalar_any c _).mono ?_
                rintro e w1 ⟨rfl, rfl⟩
                rw [Hsc.out]
                go_wp2
                go_roundw
                case rel => exact HR.out
                case measure => simp [intOf]; omega
      · have Hok := Lib.hid (show enc8R l p = (out, 0, 0) by
          rw [He.out, Hee.out, List.drop_of_length_le (by rw [Hl.out]; omega), enc8]; simp [pre8, outS])
        go_wp2_with fail
        refine (string_any (w.heap.size + 1) (w.heap.size + 1) out wr HI.out (by omega)).mono ?_
        rintro e w2 ⟨rfl, hb2⟩
        have hF := Blk.below HF.out hb2 (by omega)
        have c0 := hF.cell 0
        have c1 := hF.cell 1
        have f0 := hF.frozen 0
        have f1 := hF.frozen 1
        have hF2 := (hF.set_ 0 (.int .i64 0)).set_ 1 (.int .i64 0)
        have d0 := hF2.cell 0
        have d1 := hF2.cell 1
        have HB := Lib.hid (Hb.out.trans (hb2.mono (by omega)))
        clear hb2 hF
        go_wp2
        refine bodyPost_ret (v := .tuple #[.string ⟨out.toArray⟩, .agg #[.int .i64 0, .int .i64 0]]) (by simp [results, Tryd.results72, go_sem] at d0 d1 ⊢; simp [d0, d1]) rfl ⟨by rw [Hok.out], ?_⟩
        exact (HB.out.setCell (by simp) _).setCell (by simp) _
end Go.Proofs.YtbcbmmgfdobdiaaDoor
