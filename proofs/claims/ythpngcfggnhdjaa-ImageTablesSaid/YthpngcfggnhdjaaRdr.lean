import Derived.Test.YthpngcfggnhdjaaInts
import Derived.Deep.QuietTactic
import Derived.BigQuiet
namespace Go.Proofs.Ythpngcfggnhdjaa
open Go.RowKit Go.Proofs.Img

def stopV (c : Int) : List PanicEntry := [{ v := .iface 79 (.agg #[.int .i64 c]), recovered := false }]
def Rdr (w : World) (b : Nat) (l : List UInt8) (at_ : Nat) : Prop := Blk w b 61 #[.string ⟨l.toArray⟩, .int .i64 (at_ : Int)]

def NumPost (l : List UInt8) (at_ b : Nat) (w : World) (e : Ending) (w' : World) : Prop :=
  w.grownBy w' (some b) ∧
  match readN (l.drop at_) with
  | .ok (x, k) => e = .returned (.int .i64 x) ∧ Rdr w' b l (at_ + k)
  | .error c => e = .panicked (stopV c) ∧ ∃ at', Rdr w' b l at'

def RdRel (l : List UInt8) (at_ b : Nat) (w : World) (u g : Value) (wr : World) : Prop :=
  ∃ i u' : Nat, i ≤ 9 ∧ u = .int .u64 (u' : Int) ∧ g = .int .i64 ((i : Int) + 1) ∧ u' < 128 ^ i ∧ at_ + i ≤ l.length ∧ rd 10 0 0 (l.drop at_) = rd (10 - i) i u' (l.drop (at_ + i)) ∧ Rdr wr b l (at_ + i) ∧ w.grownBy wr (some b)


theorem or_groups (u c i : Nat) (hu : u < 128 ^ i) (hi : i ≤ 8) (hc : c < 256) :
    bits BinOp.or IntKind.u64 (u : Int) (IntKind.u64.wrap (IntKind.u64.wrap (bits BinOp.and IntKind.u8 (c : Int) 127) * 2 ^ (7 * i))) = ((u + c % 128 * 128 ^ i : Nat) : Int) := by
  have e1 : bits BinOp.and IntKind.u8 (c : Int) 127 = ((c % 128 : Nat) : Int) := by
    have := u8_and_nat c 127 hc (by omega)
    rw [show c &&& 127 = c % 128 from Nat.and_two_pow_sub_one_eq_mod c 7] at this
    exact this
  have e2 : (2 : Nat) ^ (7 * i) = 128 ^ i := by rw [Nat.pow_mul]
  have e3 : (128 : Nat) ^ i ≤ 128 ^ 8 := Nat.pow_le_pow_right (by omega) hi
  have hb : c % 128 * 128 ^ i ≤ 127 * 128 ^ 8 := Nat.mul_le_mul (by omega) e3
  rw [e1]
  have e4 : IntKind.u64.wrap (IntKind.u64.wrap ((c % 128 : Nat) : Int) * 2 ^ (7 * i)) = ((c % 128 * 128 ^ i : Nat) : Int) := by
    have a1 : IntKind.u64.wrap ((c % 128 : Nat) : Int) = ((c % 128 : Nat) : Int) := by rw [IntKind.wrap_u64]; omega
    have a2 : ((c % 128 : Nat) : Int) * 2 ^ (7 * i) = ((c % 128 * 128 ^ i : Nat) : Int) := by rw [← e2]; simp
    rw [a1, a2, IntKind.wrap_u64]; omega
  rw [e4, u64_or_nat _ _ (by omega) (by omega)]
  congr 1
  rw [Nat.or_comm, ← e2, Nat.mul_comm, ← Nat.two_pow_add_eq_or_of_lt (by rw [e2]; exact hu), Nat.add_comm]
theorem or_last (u : Nat) (hu : u < 128 ^ 9) :
    bits BinOp.or IntKind.u64 (u : Int) (IntKind.u64.wrap (IntKind.u64.wrap (bits BinOp.and IntKind.u8 1 127) * 9223372036854775808)) = ((u + 1 * 128 ^ 9 : Nat) : Int) := by
  have e1 : (IntKind.u64.wrap (IntKind.u64.wrap (bits BinOp.and IntKind.u8 1 127) * 9223372036854775808)) = ((2 ^ 63 * 1 : Nat) : Int) := by decide
  have e2 : (128 : Nat) ^ 9 = 2 ^ 63 := by decide
  rw [e2] at hu
  rw [e1, u64_or_nat _ _ (by omega) (by decide), Nat.or_comm, ← Nat.two_pow_add_eq_or_of_lt hu, e2]
  congr 1; omega
theorem unz_even (u : Nat) (hu : u < 18446744073709551616) (h : u % 2 = 0) : (bits BinOp.and IntKind.u64 (u : Int) 1 != 0) = false ∧ wrap64 ((u : Int) / 2) = unzig u := by
  constructor
  · rw [and_one_u64 _ (by omega) (by omega)]; simp; omega
  · unfold wrap64 unzig; rw [if_neg (by omega)]; omega
theorem unz_odd (u : Nat) (hu : u < 18446744073709551616) (h : u % 2 = 1) : (bits BinOp.and IntKind.u64 (u : Int) 1 != 0) = true ∧ bits BinOp.xor IntKind.i64 (-1) (wrap64 ((u : Int) / 2)) = unzig u := by
  constructor
  · rw [and_one_u64 _ (by omega) (by omega)]; simp; omega
  · have e : wrap64 ((u : Int) / 2) = ((u / 2 : Nat) : Int) := by unfold wrap64; omega
    rw [e]
    unfold unzig; rw [if_pos h]
    have hq : u / 2 < 9223372036854775808 := by omega
    generalize u / 2 = q at hq
    show IntKind.i64.wrap ((BitVec.ofInt 64 (-1) ^^^ BitVec.ofInt 64 (q : Int)).toNat : Int) = _
    have e1 : (BitVec.ofInt 64 (-1)).toNat = 18446744073709551615 := by decide
    have e2 : (BitVec.ofInt 64 (q : Int)).toNat = q := by rw [BitVec.ofInt_natCast, BitVec.toNat_ofNat]; omega
    rw [BitVec.toNat_xor, e1, e2, not64 q (by omega), IntKind.wrap_i64]
    omega

theorem rd_step {f i u p : Nat} {l : List UInt8} (h : p < l.length) : rd (f + 1) i u (l.drop p) =
    if (i = 9 ∧ l[p].toNat ≠ 1) ∨ (0 < i ∧ l[p].toNat = 0) then .error 3
    else if l[p].toNat < 128 then .ok (u + l[p].toNat % 128 * 128 ^ i, i + 1)
    else rd f (i + 1) (u + l[p].toNat % 128 * 128 ^ i) (l.drop (p + 1)) := by
  rw [List.drop_eq_getElem_cons h, rd]
theorem rd_none {f i u p : Nat} {l : List UInt8} (h : p = l.length) : rd (f + 1) i u (l.drop p) = .error 2 := by
  rw [h, List.drop_length, rd]

theorem post_err {l : List UInt8} {at_ b : Nat} {w w' : World} {c : Int} (h : rd 10 0 0 (l.drop at_) = .error c) (hg : w.grownBy w' (some b)) {at' : Nat} (hR : Rdr w' b l at') :
    NumPost l at_ b w (.panicked (stopV c)) w' := by
  refine ⟨hg, ?_⟩
  rw [readN, h]
  exact ⟨rfl, at', hR⟩
theorem post_ok {l : List UInt8} {at_ b : Nat} {w w' : World} {u k : Nat} (h : rd 10 0 0 (l.drop at_) = .ok (u, k)) (hg : w.grownBy w' (some b)) (hR : Rdr w' b l (at_ + k)) {v : Value} (hv : v = .int .i64 (unzig u)) :
    NumPost l at_ b w (.returned v) w' := by
  refine ⟨hg, ?_⟩
  rw [readN, h]
  exact ⟨by rw [hv], hR⟩
theorem rdr_put {w : World} {b p n : Nat} {l : List UInt8} (h : Rdr w b l p) : Rdr ((w.drewN n).setCell ⟨b, 1, none⟩ (.int .i64 ((p : Int) + 1))) b l (p + 1) :=
  (Blk.drewN h n).set_ 1 _

theorem rd_next {l : List UInt8} {at_ b : Nat} {w w' : World} {i U p f : Nat} (hi : i ≤ 8) (hf : f + i = 9) (he : rd 10 0 0 (l.drop at_) = rd f (i + 1) U (l.drop (p + 1))) (hU : U < 128 ^ (i + 1)) (hp : p = at_ + i) (hlt : p < l.length)
    (hR : Rdr w' b l (p + 1)) (hg : w.grownBy w' (some b)) : RdRel l at_ b w (.int .u64 (U : Int)) (.int .i64 ((i : Int) + 1 + 1)) w' := by
  have e : at_ + (i + 1) = p + 1 := by omega
  refine ⟨i + 1, U, by omega, rfl, by congr 1, hU, by omega, ?_, by rw [e]; exact hR, hg⟩
  rw [he, e, show 10 - (i + 1) = f by omega]

set_option maxRecDepth 100000 in
set_option maxHeartbeats 1000000 in
theorem rnumber_any (l : List UInt8) (at_ b : Nat) (w : World) (hr : Rdr w b l at_) (hat : at_ ≤ l.length) (hl : l.length ≤ 1000000) :
    Calls Try.prog 55 #[.pointer (some ⟨b, 0, none⟩)] w (NumPost l at_ b w) := by
  have Hr := Lib.hid hr
  clear hr
  go_enter Try.func55, Try.ntmps55
  go_wp2
  go_loopw [3, 4] (fun u g wr => RdRel l at_ b w u g wr) (fun _ g _ => 10 - (intOf g).toNat)
  case atStart => exact ⟨0, 0, by omega, rfl, rfl, by omega, hat, rfl, Hr.out, World.grownBy.refl _ _⟩
  case round =>
    obtain ⟨i, u', hi, rfl, rfl, hu, hai, he, hR, hg⟩ := hrel
    obtain ⟨p, hp⟩ : ∃ p, p = at_ + i := ⟨_, rfl⟩
    rw [← hp] at hai he hR
    have Hp := Lib.hid hp
    have Hu := Lib.hid hu
    have He := Lib.hid he
    have HR := Lib.hid hR
    have h0 : wr.cell? ⟨b, 0, none⟩ = some (.string ⟨l.toArray⟩) := hR.cell 0
    have h1 : wr.cell? ⟨b, 1, none⟩ = some (.int .i64 (p : Int)) := hR.cell 1
    have hf : wr.frozen? ⟨b, 1, none⟩ = false := hR.frozen 1
    clear hu he hR hp
    by_cases hend : p = l.length
    · have hq : ((p : Int) == (l.length : Int)) = true := by simp; omega
      have Hend := Lib.hid hend
      clear hend
      go_wp2
      go_quiet (fail)
      go_wp2
      exact ⟨rfl, post_err (He.out.trans (by obtain ⟨f, hf⟩ : ∃ f, 10 - i = f + 1 := ⟨9 - i, by omega⟩; rw [hf, rd_none Hend.out])) (grown_drewN hg _) (Blk.drewN HR.out _)⟩
    · have hq : ((p : Int) == (l.length : Int)) = false := by simp; omega
      have hlt : p < l.length := by omega
      have hlt' : (p : Int) < (l.length : Int) := by omega
      obtain ⟨f, hf⟩ : ∃ f, 10 - i = f + 1 := ⟨9 - i, by omega⟩
      have hst := He.out
      rw [hf, rd_step hlt] at hst
      have hf9 : f + i = 9 := by omega
      have Hf9 := Lib.hid hf9
      clear hf hf9
      obtain ⟨c, hc⟩ : ∃ c, (⟨l.toArray⟩ : ByteArray)[p].toNat = c := ⟨_, rfl⟩
      have hc' : l[p].toNat = c := hc
      have hc256 : c < 256 := by rw [← hc']; exact l[p].toNat_lt
      rw [hc'] at hst
      have Hst := Lib.hid hst
      clear hst hc'
      have hc0 : (c : Int) ≤ 255 := by omega
      by_cases hbad : (i = 9 ∧ c ≠ 1) ∨ (0 < i ∧ c = 0)
      · have Hfin := Lib.hid (Hst.out.trans (if_pos hbad))
        rcases hbad with ⟨h9, hc1⟩ | ⟨hi0, hc0'⟩
        · subst h9
          have hc1' : ((c : Int) != 1) = true := by rw [bne_iff_ne]; omega
          have Hc1 := Lib.hid hc1
          clear hc1
          go_wp2
          go_quiet (fail)
          go_wp2
          go_quiet (fail)
          go_wp2
          exact ⟨rfl, post_err Hfin.out (grown_setCell (grown_drewN hg _) (.inl rfl) _) (rdr_put HR.out)⟩
        · subst hc0'
          by_cases h9 : i = 9
          · subst h9
            go_wp2
            go_quiet (fail)
            go_wp2
            go_quiet (fail)
            go_wp2
            exact ⟨rfl, post_err Hfin.out (grown_setCell (grown_drewN hg _) (.inl rfl) _) (rdr_put HR.out)⟩
          · have hi9 : ((i : Int) + 1 == 10) = false := by simp; omega
            have hi1 : (1 : Int) < (i : Int) + 1 := by omega
            have Hi9 := Lib.hid h9
            clear h9
            go_wp2
            go_quiet (fail)
            go_wp2
            go_quiet (fail)
            go_wp2
            exact ⟨rfl, post_err Hfin.out (grown_setCell (grown_drewN hg _) (.inl rfl) _) (rdr_put HR.out)⟩
      · have Hfin := Lib.hid (Hst.out.trans (if_neg hbad))
        by_cases h9 : i = 9
        · subst h9
          have hc1 : c = 1 := by omega
          subst hc1
          have hok := (Hfin.out.trans (if_pos (by omega)))
          have hor := or_last u' Hu.out
          have hlt64 : u' + 1 * 128 ^ 9 < 18446744073709551616 := by have := Hu.out; omega
          have e1 : u' + 1 % 128 * 128 ^ 9 = u' + 1 * 128 ^ 9 := by omega
          rw [e1] at hok
          have Hok := Lib.hid hok
          generalize u' + 1 * 128 ^ 9 = U at Hok hor hlt64
          clear hok e1 hbad
          by_cases hodd : U % 2 = 1
          · obtain ⟨hb1, hb2⟩ := unz_odd U hlt64 hodd
            have Hl := Lib.hid hlt64
            have Ho := Lib.hid hodd
            clear hlt64 hodd
            go_wp2
            go_quiet (fail)
            go_wp2
            go_quiet (fail)
            go_wp2
            go_ret
            exact post_ok Hok.out (grown_setCell (grown_drewN hg _) (.inl rfl) _) (by rw [show at_ + (9 + 1) = p + 1 by have := Hp.out; omega]; exact rdr_put HR.out) (by first | rfl | exact congrArg (Value.int .i64) hb2)
          · obtain ⟨hb1, hb2⟩ := unz_even U hlt64 (by omega)
            have Hl := Lib.hid hlt64
            have Ho := Lib.hid hodd
            clear hlt64 hodd
            go_wp2
            go_quiet (fail)
            go_wp2
            go_quiet (fail)
            go_wp2
            go_ret
            exact post_ok Hok.out (grown_setCell (grown_drewN hg _) (.inl rfl) _) (by rw [show at_ + (9 + 1) = p + 1 by have := Hp.out; omega]; exact rdr_put HR.out) (by first | rfl | exact congrArg (Value.int .i64) hb2)
        · have hi8 : i ≤ 8 := by omega
          have hor := or_groups u' c i Hu.out hi8 hc256
          have hi9 : ((i : Int) + 1 == 10) = false := by simp; omega
          have hUlt : u' + c % 128 * 128 ^ i < 128 ^ (i + 1) := by
            have := Hu.out
            rw [Nat.pow_succ]
            have : c % 128 * 128 ^ i ≤ 127 * 128 ^ i := Nat.mul_le_mul (by omega) (Nat.le_refl _)
            omega
          have hlt64 : u' + c % 128 * 128 ^ i < 18446744073709551616 := by
            have := Nat.pow_le_pow_right (n := 128) (by omega) (show i + 1 ≤ 9 by omega)
            omega
          have Hbad := Lib.hid hbad
          have H9 := Lib.hid h9
          clear hbad h9
          by_cases hc128 : c < 128
          · have Hok := Lib.hid (Hfin.out.trans (if_pos hc128))
            generalize u' + c % 128 * 128 ^ i = U at Hok hor hlt64 hUlt
            have hcl : (c : Int) < 128 := by omega
            clear hUlt
            by_cases hodd : U % 2 = 1
            · obtain ⟨hb1, hb2⟩ := unz_odd U hlt64 hodd
              have Hl := Lib.hid hlt64
              have Ho := Lib.hid hodd
              clear hlt64 hodd
              by_cases hi0 : i = 0
              · have hi1 : decide ((1 : Int) < (i : Int) + 1) = false := by simp; omega
                have Hi0 := Lib.hid hi0
                clear hi0
                go_wp2
                go_quiet (fail)
                go_wp2
                go_quiet (fail)
                go_wp2
                go_ret
                exact post_ok Hok.out (grown_setCell (grown_drewN hg _) (.inl rfl) _) (by rw [show at_ + (i + 1) = p + 1 by have := Hp.out; omega]; exact rdr_put HR.out) (by first | rfl | exact congrArg (Value.int .i64) hb2)
              · have hi1 : (1 : Int) < (i : Int) + 1 := by omega
                have hcz : ((c : Int) == 0) = false := by have := Hbad.out; simp; omega
                have Hi0 := Lib.hid hi0
                clear hi0
                go_wp2
                go_quiet (fail)
                go_wp2
                go_quiet (fail)
                go_wp2
                go_ret
                exact post_ok Hok.out (grown_setCell (grown_drewN hg _) (.inl rfl) _) (by rw [show at_ + (i + 1) = p + 1 by have := Hp.out; omega]; exact rdr_put HR.out) (by first | rfl | exact congrArg (Value.int .i64) hb2)
            · obtain ⟨hb1, hb2⟩ := unz_even U hlt64 (by omega)
              have Hl := Lib.hid hlt64
              have Ho := Lib.hid hodd
              clear hlt64 hodd
              by_cases hi0 : i = 0
              · have hi1 : decide ((1 : Int) < (i : Int) + 1) = false := by simp; omega
                have Hi0 := Lib.hid hi0
                clear hi0
                go_wp2
                go_quiet (fail)
                go_wp2
                go_quiet (fail)
                go_wp2
                go_ret
                exact post_ok Hok.out (grown_setCell (grown_drewN hg _) (.inl rfl) _) (by rw [show at_ + (i + 1) = p + 1 by have := Hp.out; omega]; exact rdr_put HR.out) (by first | rfl | exact congrArg (Value.int .i64) hb2)
              · have hi1 : (1 : Int) < (i : Int) + 1 := by omega
                have hcz : ((c : Int) == 0) = false := by have := Hbad.out; simp; omega
                have Hi0 := Lib.hid hi0
                clear hi0
                go_wp2
                go_quiet (fail)
                go_wp2
                go_quiet (fail)
                go_wp2
                go_ret
                exact post_ok Hok.out (grown_setCell (grown_drewN hg _) (.inl rfl) _) (by rw [show at_ + (i + 1) = p + 1 by have := Hp.out; omega]; exact rdr_put HR.out) (by first | rfl | exact congrArg (Value.int .i64) hb2)
          · have Hcont := Lib.hid (Hfin.out.trans (if_neg hc128))
            have HU := Lib.hid hUlt
            generalize u' + c % 128 * 128 ^ i = U at Hcont hor HU
            have hcl : ¬ (c : Int) < 128 := by omega
            clear hUlt hlt64
            by_cases hi0 : i = 0
            · have hi1 : decide ((1 : Int) < (i : Int) + 1) = false := by simp; omega
              have Hi0 := Lib.hid hi0
              clear hi0
              go_wp2
              go_quiet (fail)
              go_wp2
              go_quiet (fail)
              go_wp2
              go_roundw
              case rel => exact rd_next hi8 Hf9.out Hcont.out HU.out Hp.out hlt (rdr_put HR.out) (grown_setCell (grown_drewN hg _) (.inl rfl) _)
              case measure => simp [intOf]; omega
            · have hi1 : (1 : Int) < (i : Int) + 1 := by omega
              have hcz : ((c : Int) == 0) = false := by have := Hbad.out; simp; omega
              have Hi0 := Lib.hid hi0
              clear hi0
              go_wp2
              go_quiet (fail)
              go_wp2
              go_quiet (fail)
              go_wp2
              go_roundw
              case rel => exact rd_next hi8 Hf9.out Hcont.out HU.out Hp.out hlt (rdr_put HR.out) (grown_setCell (grown_drewN hg _) (.inl rfl) _)
              case measure => simp [intOf]; omega
end Go.Proofs.Ythpngcfggnhdjaa
