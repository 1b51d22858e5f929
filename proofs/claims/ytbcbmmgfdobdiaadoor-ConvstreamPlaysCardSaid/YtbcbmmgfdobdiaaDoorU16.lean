/- Contracts of layer 4: known, split, instead, Encode, and of the reference's Known, Form, Escaped, Encode. -/
import Derived.Test.YtbcbmmgfdobdiaaDoorTxt
namespace Go.Proofs.YtbcbmmgfdobdiaaDoor
open Go.RowKit

def knownB (p : Int) : Bool := decide (1 ≤ p ∧ p ≤ 4)
theorem known_any (p : Int) (w : World) : Calls Tryd.prog 93 #[.int .i64 p] w fun e w' => e = .returned (.bool (knownB p)) ∧ w = w' := by
  by_cases h1 : 1 ≤ p
  · by_cases h2 : p ≤ 4
    · have H := Lib.hid (show knownB p = true by simp [knownB]; omega)
      go_enter Tryd.func93, Tryd.ntmps93
      go_wp2
      go_ret
      exact ⟨ret_bool H.out.symm, rfl⟩
    · have H := Lib.hid (show knownB p = false by simp [knownB]; omega)
      go_enter Tryd.func93, Tryd.ntmps93
      go_wp2
      go_ret
      exact ⟨ret_bool H.out.symm, rfl⟩
  · have H := Lib.hid (show knownB p = false by simp [knownB]; omega)
    go_enter Tryd.func93, Tryd.ntmps93
    go_wp2
    go_ret
    exact ⟨ret_bool H.out.symm, rfl⟩

def pair16 (c : Int) : List Int := [55296 + (c - 65536) / 1024, 56320 + (c - 65536) % 1024]
def form16 (c : Int) : List Int := if 65535 < c then pair16 c else [c]
def esc16 (c : Int) : List Int := txt ([92, 117, 123] ++ hexB c ++ [125])
def inst16 (c p : Int) : List Int := if p = 4 then esc16 c else if p = 3 then [] else [65533]

set_option maxHeartbeats 400000 in
theorem split_any (c : Int) (w : World) (h1 : 65536 ≤ c) (h2 : c ≤ 1114111) :
    Calls Tryd.prog 94 #[.int .i64 c] w fun e w' => e = .returned (.agg #[.int .i64 (55296 + (c - 65536) / 1024), .int .i64 (56320 + (c - 65536) % 1024)]) ∧ Below w.heap.size w w' := by
  go_enter Tryd.func94, Tryd.ntmps94
  go_wp2
  exact bodyPost_ret (v := .agg #[.int .i64 (55296 + (c - 65536) / 1024), .int .i64 (56320 + (c - 65536) % 1024)]) (by simp [results, Tryd.results94, go_sem]) rfl ⟨rfl, (Below.refl _ _).alloc (Nat.le_refl _) _⟩

theorem esc16_len (c : Int) : (esc16 c).length ≤ 10 := by
  have := hexB_len c; simp [esc16, txt]; omega
theorem inst16_len (c p : Int) : (inst16 c p).length ≤ 10 := by
  unfold inst16; split
  · exact esc16_len c
  · split <;> simp
theorem form16_len (c : Int) : (form16 c).length ≤ 2 := by unfold form16 pair16; split <;> simp

set_option maxRecDepth 100000 in
set_option maxHeartbeats 1000000 in
theorem instead_any (c p : Int) (w : World) (hd : Dig w) :
    Calls Tryd.prog 95 #[.int .i64 c, .int .i64 p] w fun e w' => ∃ v, e = .returned v ∧ w'.ownsRow w.heap.size 3 1 v (inst16 c p).length ((inst16 c p).map iv) ∧ Below w.heap.size w w' := by
  obtain ⟨i0, hi, hz0, hz1, hz2⟩ := info_parts Tryd.info3
  by_cases h4 : p = 4
  · subst h4
    have He := Lib.hid (show inst16 c 4 = esc16 c by simp [inst16])
    have hhl := hexB_len c
    have Hd := Lib.hid hd
    clear hd
    go_enter Tryd.func95, Tryd.ntmps95
    go_wp2_with fail
    refine (hex_any c w Hd.out).mono ?_
    rintro e w1 ⟨rfl, hb1⟩
    generalize hX : hexB c = X at hhl
    have HX := Lib.hid hX
    clear hX
    have e1 : (⟨#[92, 117, 123]⟩ : ByteArray) ++ ⟨X.toArray⟩ = ⟨([92, 117, 123] ++ X).toArray⟩ := ByteArray.mk_append_mk [92, 117, 123] X
    have e2 : (⟨([92, 117, 123] ++ X).toArray⟩ : ByteArray) ++ ⟨#[125]⟩ = ⟨([92, 117, 123] ++ X ++ [125]).toArray⟩ := ByteArray.mk_append_mk _ [125]
    obtain ⟨S, hS⟩ : ∃ S, S = [92, 117, 123] ++ X ++ [125] := ⟨_, rfl⟩
    obtain ⟨S1, hS1⟩ : ∃ S, S = [92, 117, 123] ++ X := ⟨_, rfl⟩
    rw [← hS1] at e1 hS
    rw [← hS1, ← hS] at e2
    have hSl : S.length ≤ 10 := by rw [hS, hS1]; simp; omega
    have hS1l : S1.length ≤ 9 := by rw [hS1]; simp; omega
    have HS := Lib.hid (hS.trans (by rw [hS1]))
    clear hS hS1
    go_wp2
    go_loopw [6, 19] (fun v i wr => ∃ k : Nat, k ≤ S.length ∧ i = .int .i64 k ∧ wr.ownsRow w.heap.size 3 1 v k ((txt (S.take k)).map iv) ∧ Below w.heap.size w wr) (fun _ i _ => S.length - (intOf i).toNat)
    case atStart => exact ⟨0, Nat.zero_le _, rfl, World.ownsRow_nil _ _ _ _, hb1⟩
    case round =>
      obtain ⟨k, hk, rfl, ho, hb⟩ := hrel
      by_cases hlt : k < S.length
      · have Hs := Lib.hid (txt_snoc S k hlt)
        obtain ⟨x, hx⟩ : ∃ x, (⟨S.toArray⟩ : ByteArray)[k].toNat = x := ⟨_, rfl⟩
        have Hx := Lib.hid (show S[k].toNat = x from hx)
        have hx256 : x < 256 := by rw [← Hx.out]; exact S[k].toNat_lt
        clear e1 e2
        go_wp2_with (at_builtin; go_must (refine wpList_app1 rfl (.tmp 22) (.tmp 27) 22 rfl Tryd.underlying22 hi hz0 hz1 hz2 rfl (by omega) wr u6 _ _ rfl ho _ rfl rfl (by omega) hb.size ?_); intro v1 w1 ho1 hB1 _)
        go_roundw
        case rel => exact ⟨k + 1, by omega, by go_num, by rw [Hs.out, Hx.out]; exact ho1, hb.trans hB1⟩
        case measure => simp [intOf]; omega
      · have Ht := Lib.hid (show S.take k = S from List.take_of_length_le (by omega))
        have hkS : S.length = k := by omega
        have HkS := Lib.hid hkS
        clear hkS e1 e2
        go_wp2
        go_ret
        refine ⟨u6, rfl, ?_, hb⟩
        rw [He.out, esc16, HX.out, ← HS.out, txt_len, HkS.out]
        rw [Ht.out] at ho
        exact ho
  · by_cases h3 : p = 3
    · subst h3
      have He := Lib.hid (show inst16 c 3 = [] by simp [inst16])
      clear hd h4
      go_enter Tryd.func95, Tryd.ntmps95
      go_wp2
      refine wp_loop_rounds 1 ?_
      rw [rounds_succ]
      go_wp2
      go_ret
      exact ⟨_, rfl, by rw [He.out]; exact World.ownsRow_nil _ _ _ _, Below.refl _ _⟩
    · have He := Lib.hid (show inst16 c p = [65533] by simp [inst16, h4, h3])
      have h4' : (p == 4) = false := by simpa using h4
      have h3' : (p == 3) = false := by simpa using h3
      clear hd h4 h3
      go_enter Tryd.func95, Tryd.ntmps95
      go_wp2
      go_ret
      exact ⟨_, rfl, by rw [He.out]; exact World.ownsRow_lit _ _ _ (Nat.le_refl _) (by unfold maxLen; omega) rfl, (Below.refl _ _).alloc (Nat.le_refl _) _⟩
end Go.Proofs.YtbcbmmgfdobdiaaDoor
