/- The reference's builder: block. -/
import Derived.Test.YtnlmikefihaldaaNc
import Derived.Deep.CutBlock
namespace Go.Proofs.Ytnlmikefihaldaa
open Go.RowKit

/-- the numbers' row and the builder's memory, after an append to the numbers -/
structure RNums (F : RF) (l : List (Int × Int × Int)) (ws : List Int) (st stc : PS) (evs0 evs : List (Int × Int × Int)) (k a j : Nat) (W wr : World) (v : Value) (nums : List Int) : Prop where
  li : LInv ws l st stc k a j nums
  bm : RMem F l ws stc evs wr
  fr : RFrm F W wr
  own : wr.ownsRow W.heap.size 3 1 v j (nums.map iv)
  far : ∀ b, v.ownBlock = some b → ¬ rB F wr b
  ct : evs.length + j ≤ evs0.length + 2 * (j * 2 ^ bel ws (k + 1))
theorem rnums_step {F : RF} {l : List (Int × Int × Int)} {ws : List Int} {st stc st2 : PS} {evs0 evs evs2 : List (Int × Int × Int)} {k a j : Nat} {W wr w1 w2 : World} {v v' : Value} {nums : List Int} {x : Int} (hF : F.ok) (h : RNums F l ws st stc evs0 evs k a j W wr v nums) (hW : F.H0 ≤ W.heap.size)
    (hf : RFrm F wr w1) (hb : RMem F l ws st2 evs2 w1) (hl : LInv ws l st st2 k a (j + 1) (nums ++ [x])) (ho : w2.ownsRow W.heap.size 3 1 v' (j + 1) (nums.map iv ++ [.int .i64 x])) (hg : w1.grownBy w2 v.ownBlock) (hat : v'.ownBlock = v.ownBlock ∨ v'.ownBlock = some (w1.heap.size + 1)) (hct : evs2.length + 1 ≤ evs.length + 2 * 2 ^ bel ws (k + 1)) :
    RNums F l ws st st2 evs0 evs2 k a (j + 1) W w2 v' (nums ++ [x]) := by
  have hgs : F.gs < W.heap.size := by have := hF.hg; omega
  have hbb : F.bb < W.heap.size := by have := hF.hb; omega
  have hfar : ∀ b, v.ownBlock = some b → ¬ rB F w1 b := fun b e hr => by
    rcases hf.rows b hr with hr | hr
    · exact h.far b e hr
    · have := (h.own.lt b e).2; omega
  have hgg : w2.heap[F.gs]? = w1.heap[F.gs]? := hg.block _ (Nat.lt_of_lt_of_le hgs (Nat.le_trans h.fr.size hf.size)) (fun e => by have := (h.own.lt _ e.symm).1; omega)
  have hgb : w2.heap[F.bb]? = w1.heap[F.bb]? := hg.block _ (Nat.lt_of_lt_of_le hbb (Nat.le_trans h.fr.size hf.size)) (fun e => by have := (h.own.lt _ e.symm).1; omega)
  refine ⟨hl, hb.other hF hg fun b e => ⟨Nat.le_trans hW (h.own.lt b e).1, hfar b e⟩, (h.fr.trans hf).late hgs hbb hg fun b e => (h.own.lt b e).1, by simpa [iv] using ho, fun b e hr => ?_, ?_⟩
  · rw [rB_blk hgg hgb] at hr
    rcases hat with hat | hat
    · rw [hat] at e; exact hfar b e hr
    · rw [hat] at e; injection e with e; have := (rB_ge hb hr).2; omega
  · have := h.ct
    have e : (j + 1) * 2 ^ bel ws (k + 1) = j * 2 ^ bel ws (k + 1) + 2 ^ bel ws (k + 1) := Nat.succ_mul _ _
    rw [e]; omega
theorem rnums_own {F : RF} {l : List (Int × Int × Int)} {ws : List Int} {st stc : PS} {evs0 evs : List (Int × Int × Int)} {k a j : Nat} {W wr w1 : World} {v : Value} {nums : List Int} (hF : F.ok) (h : RNums F l ws st stc evs0 evs k a j W wr v nums) (hW : F.H0 ≤ W.heap.size) (hf : RFrm F wr w1) : w1.ownsRow W.heap.size 3 1 v j (nums.map iv) :=
  own_blk h.own fun g e => by
    have h1 := h.own.lt g e
    have h2 := hF.hg
    have h3 := hF.hb
    exact hf.block g h1.2 (by omega) (by omega) (h.far g e)
theorem rb_last {F : RF} {l : List (Int × Int × Int)} {ws : List Int} {st stc : PS} {evs0 evs : List (Int × Int × Int)} {k a j : Nat} {W wr w2 : World} {v v' : Value} {nums : List Int} (hF : F.ok) (hV : W64s l) (hm : k + 1 = ws.length) (h : RNums F l ws st stc evs0 evs k a j W wr v nums) (hW : F.H0 ≤ W.heap.size)
    (ho : w2.ownsRow W.heap.size 3 1 v' (j + 1) (nums.map iv ++ [.int .i64 (valF l ((a + j : Nat) : Int))])) (hg : wr.grownBy w2 v.ownBlock) (hat : v'.ownBlock = v.ownBlock ∨ v'.ownBlock = some (wr.heap.size + 1)) : ∃ nums', RNums F l ws st stc evs0 evs k a (j + 1) W w2 v' nums' := by
  exact ⟨_, rnums_step hF h hW (RFrm.refl _ _) h.bm (linv_last hm h.li (hV _)) ho hg hat (by have := Nat.two_pow_pos (bel ws (k + 1)); omega)⟩
theorem rb_more {F : RF} {l : List (Int × Int × Int)} {ws : List Int} (hw : okW ws) {st stc st2 : PS} {evs0 evs evs2 : List (Int × Int × Int)} {k a j i : Nat} {W wr w1 w2 : World} {v v' : Value} {nums : List Int} (hF : F.ok) (hm : k + 1 < ws.length) (h : RNums F l ws st stc evs0 evs k a j W wr v nums) (hW : F.H0 ≤ W.heap.size) (hP : BPost ws l stc st2 (k + 1) (a + j * 2 ^ bel ws (k + 1)) i) (hb : RMem F l ws st2 evs2 w1) (hf : RFrm F wr w1) (hct : evs2.length + 1 ≤ evs.length + 2 * 2 ^ bel ws (k + 1)) (ha : a + j * 2 ^ bel ws (k + 1) ≤ 1114112)
    (ho : w2.ownsRow W.heap.size 3 1 v' (j + 1) (nums.map iv ++ [.int .i64 (i : Int)])) (hg : w1.grownBy w2 v.ownBlock) (hat : v'.ownBlock = v.ownBlock ∨ v'.ownBlock = some (w1.heap.size + 1)) : ∃ nums', RNums F l ws st st2 evs0 evs2 k a (j + 1) W w2 v' nums' := by
  have hc := ginv_cnt h.li.inv hm
  have hle := hP.le
  exact ⟨_, rnums_step hF h hW hf hb (linv_more hw hm h.li hP (by omega)) ho hg hat hct⟩
/-- what a call of block leaves -/
def RBlkE (F : RF) (l : List (Int × Int × Int)) (ws : List Int) (st : PS) (evs : List (Int × Int × Int)) (k a : Nat) (w : World) (e : Ending) (w' : World) : Prop :=
  ∃ (st' : PS) (evs' : List (Int × Int × Int)) (i : Nat), e = .returned (.int .i64 (i : Int)) ∧ BPost ws l st st' k a i ∧ RMem F l ws st' evs' w' ∧ RFrm F w w' ∧ evs'.length + 1 ≤ evs.length + 2 * 2 ^ bel ws k
/-- the contract of block at a stage -/
def RBlkC (F : RF) (l : List (Int × Int × Int)) (ws : List Int) (k : Nat) : Prop := ∀ (a : Nat) (st : PS) (evs : List (Int × Int × Int)) (A : Option Addr) (n c : Nat) (nl : List (Int × Int × Int)) (w : World), GInv ws st k a → a + 2 ^ bel ws k ≤ 1114112 → evs.length ≤ 2 * a → RMem F l ws st evs w →
    Reads w F.N 3 A n (nl.flatMap spv) → n ≤ c → n ≤ 1000000 → Near l nl (a : Int) ((a : Int) + (2 ^ bel ws k : Nat) - 1) →
    Calls Try.prog 39 #[ptr F.bb, .int .i64 ((k : Int) + 1), .int .i64 (a : Int), .int .i64 ((2 ^ bel ws k : Nat) : Int), .slice A n c] w fun e w' => RBlkE F l ws st evs k a w e w'
theorem near_near {l nl n2 : List (Int × Int × Int)} {lo hi lo2 hi2 : Int} (h : Near l nl lo hi) (h' : Near nl n2 lo2 hi2) (h1 : lo ≤ lo2) (h2 : hi2 ≤ hi) : Near l n2 lo2 hi2 :=
  ⟨h'.1, fun c hc1 hc2 => (h'.2 c hc1 hc2).trans (h.2 c (by omega) (by omega))⟩
/-- put's answer, as the plain law wants it -/
theorem put_post {F : RF} {l : List (Int × Int × Int)} {ws : List Int} (hw : okW ws) {st stc : PS} {evs : List (Int × Int × Int)} {k a : Nat} {nums : List Int} {w w' : World} {e : Ending} (hk : k < ws.length) (hG : GInv ws st k a) (hL : LInv ws l st stc k a (nb ws k) nums) (h : PutE F l ws stc evs k nums w e w') :
    ∃ (st' : PS) (i : Nat), e = .returned (.int .i64 (i : Int)) ∧ BPost ws l st st' k a i ∧ RMem F l ws st' evs w' ∧ RFrm F w w' ∧ st'.um k = st.um k := by
  have hg := (hG.2 k (Nat.le_refl _) hk).1
  have hs := linv_stg hL
  have hc := linv_cnt hL
  rcases h with ⟨i, hi, hb, rfl, h1, h2⟩ | ⟨hall, rfl, h1, h2⟩
  · have hf : stc.fm k (keyB nums) = some (i : Int) := by
      rw [hL.same.1]
      exact (hg.fmok _ _).2 ⟨i, by rw [← hc]; exact hi, rfl, by rw [← hs, hb]⟩
    obtain ⟨n, hn, hp⟩ := bpost_found hw hk hG hL hf
    have : i = n := by omega
    subst this
    exact ⟨stc, i, rfl, hp, h1, h2, hL.same.2⟩
  · have hf : stc.fm k (keyB nums) = none := by
      rw [hL.same.1]
      cases hx : st.fm k (keyB nums) with
      | none => rfl
      | some v =>
        obtain ⟨i, hi, _, hkey⟩ := (hg.fmok _ _).1 hx
        have hbn : blk (stg st.ss (k + 1)) (nb ws k) i = nums := keyB_inj (fun x hx => hg.w64 x (List.mem_of_mem_drop (List.mem_of_mem_take hx))) hL.w64 hkey
        exact absurd (by rw [hs]; exact hbn) (hall i (by rw [hc]; exact hi))
    exact ⟨_, _, rfl, bpost_new hw hk hG hL hf, h1, h2, hL.same.2⟩
theorem ev_at {evs : List (Int × Int × Int)} {j : Nat} {x : Int × Int × Int} (h : evs[j]? = some x) (k : Nat) (v : Int) : evL (evs.drop j) k v = if x.1 = (k : Int) + 1 ∧ x.2.1 = v then some x.2.2 else evL (evs.drop (j + 1)) k v := by
  obtain ⟨h1, h2⟩ := List.getElem?_eq_some_iff.1 h
  obtain ⟨a, b, c⟩ := x
  rw [List.drop_eq_getElem_cons h1, h2, evL]
theorem rb_hit {F : RF} {l : List (Int × Int × Int)} {ws : List Int} {st : PS} {evs : List (Int × Int × Int)} {k a : Nat} {w w' : World} {v i : Int} (hF : F.ok) (hk : k < ws.length) (hG : GInv ws st k a) (hB : RMem F l ws st evs w) (hb : Below w.heap.size w w') (hv : ∀ o, o < 2 ^ bel ws k → valF l ((a + o : Nat) : Int) = v) (hu : evL evs k v = some i) :
    RBlkE F l ws st evs k a w (.returned (.int .i64 i)) w' := by
  obtain ⟨n, rfl, hp⟩ := bpost_hit (l := l) hk hG hv (by rw [hB.um]; exact hu)
  exact ⟨st, evs, n, rfl, hp, hB.stay hF hb, RFrm.out hB.gs hB.bb (grown_of_below hb none) (by simp), by have := Nat.two_pow_pos (bel ws k); omega⟩

theorem rfrm_reads {F : RF} (hF : F.ok) {l : List (Int × Int × Int)} {ws : List Int} {st : PS} {evs : List (Int × Int × Int)} {w w' : World} (hB : RMem F l ws st evs w) (hf : RFrm F w w') {size n : Nat} {A : Option Addr} {xs : List Value} (h : Reads w F.N size A n xs) : Reads w' F.N size A n xs :=
  h.keep fun p hp => World.cell?_of_block (hf.block _ (by have := hB.sz; have := hF.hN; omega) (hF.fN _ hp).2 (hF.fN _ hp).1 (fun h => by have := (rB_ge hB h).1; have := hF.hN; omega))
theorem Try.infoT87 : (Try.prog.info? 87).map (fun i => (i.zero, i.size, i.bytes)) = some (some (.agg #[.int .i64 0, .int .i64 0, .int .i64 0]), 3, 24) := by kernel_rfl
/-- the end where the block is even -/
theorem rb_even {F : RF} {l : List (Int × Int × Int)} {ws : List Int} {st st' : PS} {evs evc : List (Int × Int × Int)} {k a i : Nat} {w w3 w4 : World} {v : Value} {v' : Value} {x : Int} (hF : F.ok) (hk : k < ws.length) (hP : BPost ws l st st' k a i) (hB : RMem F l ws st' evc w3) (hf : RFrm F w w3) (hv : w3.cell? ⟨F.bb, 3, none⟩ = some v) (hn : evL evs k x = none) (hu0 : ∀ y, st.um k y = evL evs k y) (hum : st'.um k = st.um k)
    (hval : ∀ o, o < 2 ^ bel ws k → valF l ((a + o : Nat) : Int) = x) (hct : evc.length + 2 ≤ evs.length + 2 * 2 ^ bel ws k)
    (hg : w3.grownBy w4 v.ownBlock) (ho : w4.ownsRow F.H0 87 3 v' (evc.length + 1) (evc.flatMap spv ++ [.int .i64 ((k : Int) + 1), .int .i64 x, .int .i64 (i : Int)])) (hat : v'.ownBlock = v.ownBlock ∨ v'.ownBlock = some (w3.heap.size + 1)) :
    RBlkE F l ws st evs k a w (.returned (.int .i64 (i : Int))) (w4.setCell ⟨F.bb, 3, none⟩ v') := by
  have hn2 : evL evc k x = none := by rw [← hB.um, hum, hu0]; exact hn
  obtain ⟨r1, r2⟩ := rmem_even (i := (i : Int)) hF hB hv hn2 hg ho (by
    rcases hat with h | h
    · exact .inl h
    · exact .inr fun b e => by rw [h] at e; injection e with e; omega)
  exact ⟨_, _, i, rfl, bpost_uni hk hP hval, r1, hf.trans r2, by rw [List.length_append]; simp; omega⟩

set_option maxRecDepth 100000 in
set_option maxHeartbeats 8000000 in
theorem rblock_step (F : RF) (hF : F.ok) (l : List (Int × Int × Int)) (ws : List Int) (hw : okW ws) (hl : W64s l) (hm : ws.length = F.m) (k : Nat) (hk : k < F.m) (ih : k + 1 < F.m → RBlkC F l ws (k + 1)) : RBlkC F l ws k := by
  intro a st evs A n c nl w hG ha hev hB hr hc hn hN
  have hp0 : 0 < 2 ^ bel ws k := Nat.two_pow_pos _
  have hm3 : F.m ≤ 3 := by have := hw.2.1; omega
  have hbl := bel_le hw k
  have hM16 : 2 ^ bel ws k ≤ 65536 := Nat.le_trans (Nat.pow_le_pow_right (n := 2) (by decide) hbl) (by decide)
  have hNH := hF.hN
  have hNs : F.N ≤ w.heap.size := by have := hB.sz; omega
  obtain ⟨M0, hM0⟩ : ∃ M0, M0 = 2 ^ bel ws k := ⟨_, rfl⟩
  rw [← hM0] at ha hp0 hN hM16 ⊢
  have HM0 := Lib.hid hM0
  have Hw := Lib.hid hw
  have HF := Lib.hid hF
  have Hl := Lib.hid hl
  have Hm := Lib.hid hm
  have HG := Lib.hid hG
  have HB := Lib.hid hB
  have Ih := Lib.hid ih
  have HR := Lib.hid hr
  have HN := Lib.hid hN
  clear hw hF hl hm hG hB ih hr hN hM0 hbl hNH
  unfold ptr
  go_enter Try.func39, Try.ntmps39
  go_wp2_with fail
  refine (flat_any A n c nl (a : Int) ((a : Int) + (M0 : Int) - 1) w (HR.out.more hNs) hn).mono ?_
  rintro e w1 ⟨⟨v, is, rfl, hflat⟩, hb1⟩
  have HB1 := Lib.hid (HB.out.stay HF.out hb1)
  have HR1 := Lib.hid (HR.out.below (hb1.mono hNs))
  have Hb1 := Lib.hid hb1
  have Hv := Lib.hid (show is = true → ∀ o, o < 2 ^ bel ws k → valF l ((a + o : Nat) : Int) = v from fun h o ho => by
    rw [← HM0.out] at ho
    rw [← HN.out.2 _ (by omega) (by omega)]
    exact hflat h _ (by omega) (by omega))
  obtain ⟨ve, x1, x2⟩ := HB1.out.xb
  have g0 := x1.cell 0
  have g1 := x1.cell 1
  have g3 := x1.cell 3
  obtain ⟨Ae, ce, rfl, hce, hre⟩ := val_of_ownS x2
  have HRe := Lib.hid hre
  have X2 := Lib.hid x2
  clear hb1 hflat x1 x2 hre
  go_upto_block 0 with fail
  go_cut [13] from 31 to 72 (fun s13 wx => wx = w1 ∧ Hid (is = true → evL evs k v = none))
  case first =>
    cases is with
    | false =>
      go_wp2_with fail
      go_loop [13] (fun s13 => s13 = .int .i64 0) (fun _ => 0)
      case atStart => rfl
      case round =>
        obtain rfl := hrel
        go_wp2
        go_meet
        exact ⟨rfl, Lib.hid (fun h => by cases h)⟩
    | true =>
      go_wp2_with fail
      go_loop [13] (fun s13 => ∃ j : Nat, j ≤ evs.length ∧ s13 = .int .i64 (j : Int) ∧ Hid (evL evs k v = evL (evs.drop j) k v)) (fun s13 => evs.length - (intOf s13).toNat)
      case atStart => exact ⟨0, by omega, rfl, Lib.hid (by rw [List.drop_zero])⟩
      case round =>
        obtain ⟨j, hj, rfl, Hj⟩ := hrel
        by_cases hlt : j < evs.length
        · obtain ⟨ad, x, y, z, rfl, hadb, hxl, c0, c1, c2⟩ := HRe.out.span hlt
          have hji : (j : Int) < (evs.length : Int) := by omega
          have hat := ev_at hxl k v
          simp only at hat
          have Hat := Lib.hid hat
          clear hat hxl
          by_cases q1 : x = (k : Int) + 1
          · by_cases q2 : y = v
            · have HE := Lib.hid (rb_hit HF.out (by rw [Hm.out]; exact hk) HG.out HB.out Hb1.out (Hv.out (by first | rfl | trivial)) (i := z) (by rw [Hj.out, Hat.out, if_pos ⟨q1, q2⟩]))
              subst q1
              subst q2
              go_wp2
              go_ret
              exact HE.out
            · have q2b : (y == v) = false := by simpa using q2
              have Hj2 := Lib.hid (show evL evs k v = evL (evs.drop (j + 1)) k v by rw [Hj.out, Hat.out, if_neg (fun h => q2 h.2)])
              subst q1
              clear q2
              go_wp2
              go_round
              case rel => exact ⟨j + 1, by omega, by go_num, Hj2⟩
              case measure => simp [intOf]; omega
          · have q1b : (x == (k : Int) + 1) = false := by simpa using q1
            have Hj2 := Lib.hid (show evL evs k v = evL (evs.drop (j + 1)) k v by rw [Hj.out, Hat.out, if_neg (fun h => q1 h.1)])
            clear q1
            go_wp2
            go_round
            case rel => exact ⟨j + 1, by omega, by go_num, Hj2⟩
            case measure => simp [intOf]; omega
        · have hji : ¬ (j : Int) < (evs.length : Int) := by omega
          have Hno := Lib.hid (show evL evs k v = none by rw [Hj.out, List.drop_of_length_le (by omega)]; rfl)
          go_wp2
          go_meet
          exact ⟨rfl, Lib.hid (fun _ => Hno.out)⟩
  case rest =>
    obtain ⟨rfl, Hnone⟩ := hcut
    have hkl : k < ws.length := by rw [Hm.out]; exact hk
    have hwd := wd_bd Hw.out hkl
    have hNs1 : F.N ≤ wc.heap.size := Nat.le_trans hNs Hb1.out.size
    obtain ⟨ad, u, had, hadB, hu, hcw⟩ := HB1.out.rw.at_ hk
    obtain ⟨x, hxk, rfl⟩ := getElem_map_iv' hu
    have hxw := getElem_wd hxk
    have hx12 := Hw.out.2.2.1 x (List.mem_of_getElem? hxk)
    obtain ⟨X, rfl⟩ : ∃ X : Nat, x = (X : Int) := ⟨x.toNat, by omega⟩
    rw [Int.toNat_natCast] at hxw
    have hX : X ≤ 12 := by omega
    have hpn := pow_wrap16 X (by omega)
    have hnb := nb_bel Hw.out hkl
    have hM1p : 0 < 2 ^ bel ws (k + 1) := Nat.two_pow_pos _
    have hnp := nb_pos ws k
    have hnX : nb ws k = 2 ^ X := by unfold nb; rw [hxw]
    have hn2 : 2 ≤ nb ws k := by
      rw [hnX]
      calc 2 = 2 ^ 1 := rfl
        _ ≤ 2 ^ X := Nat.pow_le_pow_right (by decide) (by omega)
    rw [← hnX] at hpn
    have hn1b : nb ws k ≤ 4096 := by rw [hnX]; exact Nat.le_trans (Nat.pow_le_pow_right (n := 2) (by decide) hX) (by decide)
    obtain ⟨M1, hM1⟩ : ∃ M1, M1 = 2 ^ bel ws (k + 1) := ⟨_, rfl⟩
    obtain ⟨n1, hn1⟩ : ∃ n1, n1 = nb ws k := ⟨_, rfl⟩
    rw [← hM1] at hnb hM1p
    rw [← hn1] at hpn hnb hnp hn2 hn1b
    rw [← HM0.out] at hnb
    have hM1M : M1 ≤ M0 := by rw [hnb]; exact Nat.le_mul_of_pos_left _ hnp
    have hdv : (M0 : Int) / (n1 : Int) = (M1 : Int) := by rw [hnb, Int.natCast_mul]; exact Int.mul_ediv_cancel_left _ (by omega)
    have hdv2 : (M0 : Int).tdiv (n1 : Int) = (M1 : Int) := by rw [Int.tdiv_eq_ediv_of_nonneg (by omega)]; exact hdv
    have hnz : ((n1 : Int) == 0) = false := by simp; omega
    have hnzn : ¬ (n1 : Int) = 0 := by omega
    have hwM1 : IntKind.i64.wrap (M1 : Int) = (M1 : Int) := IntWalk.i64_in _ (by omega)
    have HM1 := Lib.hid hM1
    have Hn1 := Lib.hid hn1
    have Hnb := Lib.hid hnb
    have Hn2 := Lib.hid hn2
    clear hM1 hn1 hnb hu hxk hxw hx12 hwd hnX hn2
    have HN0 := Lib.hid (show RNums F l ws st st evs evs k a 0 wc wc (.slice none 0 0) [] from ⟨linv_zero hkl HG.out, HB1.out, RFrm.refl _ _, World.ownsRow_nil _ _ _ _, fun b e => (by cases e), by omega⟩)
    have hki : (k : Int) < (F.m : Int) := by omega
    have hk0 : (0 : Int) ≤ (k : Int) := by omega
    have hk11 : (k : Int) + 1 - 1 = (k : Int) := by omega
    have HH := Lib.hid (show F.H0 ≤ wc.heap.size from HB1.out.sz)
    clear hkl
    rw [had] at g1
    go_wp2_with fail
    go_loopw [17, 16] (fun s17 s16 wr => ∃ (j : Nat) (nums : List Int) (stc : PS) (evc : List (Int × Int × Int)), s17 = .int .i64 (j : Int) ∧ j ≤ n1 ∧ Hid (RNums F l ws st stc evs evc k a j wc wr s16 nums)) (fun s17 _ _ => n1 - (intOf s17).toNat)
    case atStart => exact ⟨0, [], st, evs, rfl, by omega, HN0⟩
    case round =>
      obtain ⟨j, nums, stc, evc, rfl, hj, HNN⟩ := hrel
      obtain ⟨ve2, y1, _⟩ := HNN.out.bm.xb
      have z1 := y1.cell 1
      by_cases hlt : j < n1
      · obtain ⟨C, hC⟩ : ∃ C, C = j * M1 := ⟨_, rfl⟩
        have hC2 : C + M1 ≤ M0 := by rw [hC, Hnb.out, ← Nat.succ_mul]; exact Nat.mul_le_mul_right _ hlt
        have hmul : (j : Int) * (M1 : Int) = (C : Int) := by rw [hC, Int.natCast_mul]
        have HC := Lib.hid hC
        have hji : (j : Int) < (n1 : Int) := by omega
        have hNr : F.N ≤ wr.heap.size := Nat.le_trans hNs1 HNN.out.fr.size
        have hRr := rfrm_reads HF.out HB1.out HNN.out.fr HR1.out
        have HRr := Lib.hid hRr
        clear hC hRr y1
        go_wp2_with fail
        refine (within_any A n c nl ((a : Int) + (C : Int)) ((a : Int) + (C : Int) + (M1 : Int) - 1) F.N wr HRr.out hc hn HN.out.1).mono ?_
        rintro e w5 ⟨⟨A2, n2, c2, nl2, rfl, hr2, hc2, hn2', hnear⟩, rfl⟩
        have HR2 := Lib.hid hr2
        have HN2 := Lib.hid (near_near HN.out hnear (by omega) (by omega))
        clear hr2 hnear
        obtain ⟨i0, hi, hz0, hz1', hz2'⟩ := info_parts Try.infoT3
        by_cases hlast : k + 1 = F.m
        · have hkb : ((k : Int) + 1 == (F.m : Int)) = true := by simp; omega
          have HM1e := Lib.hid (show M1 = 1 by rw [HM1.out, bel_end (by rw [Hm.out]; omega)])
          have ho5 := HNN.out.own
          have hsz : wc.heap.size ≤ w5.heap.size := HNN.out.fr.size
          go_wp2_with fail
          refine (rvalue_any A2 n2 c2 nl2 ((a : Int) + (C : Int)) w5 (HR2.out.more hNr) hn2').mono ?_
          rintro e w6 ⟨rfl, rfl⟩
          have hval : valF nl2 ((a : Int) + (C : Int)) = valF l ((a + j : Nat) : Int) := by
            rw [HN2.out.2 _ (by omega) (by omega)]
            congr 1
            rw [HC.out, HM1e.out]; omega
          rw [hval]
          go_wp2_with (at_builtin; refine wpList_app1_at rfl (.tmp 109) (.tmp 113) 23 rfl Try.underlying23 hi hz0 hz1' hz2' rfl (by omega) w6 _ _ _ rfl ho5 _ rfl rfl (by omega) hsz ?_; intro v6 w7 ho6 hg6 hat6)
          obtain ⟨nums', HN'⟩ := rb_last HF.out Hl.out (by rw [Hm.out]; exact hlast) HNN.out HH.out ho6 hg6 hat6
          have HNX := Lib.hid HN'
          clear HN' ho6 hg6 hat6 ho5
          go_roundw
          case rel => exact ⟨j + 1, nums', stc, evc, by go_num, by omega, HNX⟩
          case measure => simp [intOf]; omega
        · have hkm2 : k + 1 < F.m := by omega
          have hkb : ((k : Int) + 1 == (F.m : Int)) = false := by simp; omega
          have hevc : evc.length ≤ 2 * (a + C) := by have := HNN.out.ct; rw [← HM1.out, ← HC.out] at this; omega
          have hcall := Ih.out hkm2 (a + C) stc evc A2 n2 c2 nl2 w5 (by have := HNN.out.li.inv; rw [← HM1.out, ← HC.out] at this; exact this) (by rw [← HM1.out]; omega) hevc HNN.out.bm HR2.out hc2 hn2' (by
            rw [← HM1.out, show ((a + C : Nat) : Int) = (a : Int) + (C : Int) by omega]; exact HN2.out)
          rw [← HM1.out, show ((a + C : Nat) : Int) = (a : Int) + (C : Int) by omega, show (((k + 1 : Nat) : Int) + 1) = (k : Int) + 1 + 1 by omega] at hcall
          unfold ptr at hcall
          have Hcall := Lib.hid hcall
          clear hcall
          go_wp2_with fail
          refine Hcall.out.mono ?_
          rintro e w6 ⟨st2, ev2, i, rfl, hP, hb6, hf6, hct6⟩
          have ho6 := rnums_own HF.out HNN.out HH.out hf6
          have hsz : wc.heap.size ≤ w6.heap.size := Nat.le_trans HNN.out.fr.size hf6.size
          have HP := Lib.hid hP
          have Hb6 := Lib.hid hb6
          have Hf6 := Lib.hid hf6
          have Hct6 := Lib.hid hct6
          clear hP hb6 hf6 hct6
          go_wp2_with (at_builtin; refine wpList_app1_at rfl (.tmp 115) (.tmp 123) 23 rfl Try.underlying23 hi hz0 hz1' hz2' rfl (by omega) w6 _ _ _ rfl ho6 _ rfl rfl (by omega) hsz ?_; intro v7 w7 ho7 hg7 hat7)
          obtain ⟨nums', HN'⟩ := rb_more Hw.out HF.out (by rw [Hm.out]; exact hkm2) HNN.out HH.out (by rw [← HM1.out, ← HC.out]; exact HP.out) Hb6.out Hf6.out Hct6.out (by rw [← HM1.out, ← HC.out]; omega) ho7 hg7 hat7
          have HNX := Lib.hid HN'
          clear HN' ho7 hg7 hat7 ho6
          go_roundw
          case rel => exact ⟨j + 1, nums', st2, ev2, by go_num, by omega, HNX⟩
          case measure => simp [intOf]; omega
      · obtain rfl : j = n1 := by omega
        obtain ⟨A9, c9, hv9, hc9, hr9⟩ := val_of_own HNN.out.own
        subst hv9
        have hjj : ¬ (j : Int) < (j : Int) := by omega
        have hkw : k < ws.length := by rw [Hm.out]; exact hk
        have hput := put_any F HF.out l ws Hw.out stc evc k nums A9 c9 wr HNN.out.bm Hm.out hk (by rw [HNN.out.li.inv.1, Hm.out]) (by rw [linv_stg HNN.out.li, linv_cnt HNN.out.li]; exact (HG.out.2 k (Nat.le_refl _) hkw).1.len) (by rw [linv_cnt HNN.out.li]; have := ginv_cnt HG.out hkw; omega) (by rw [HNN.out.li.len, Hn1.out]) (by rw [← Hn1.out]; exact hr9)
        rw [← Hn1.out] at hput
        unfold ptr at hput
        have Hput := Lib.hid hput
        clear hput hr9 y1
        go_wp2_with fail
        refine Hput.out.mono ?_
        rintro e w5 hE
        obtain ⟨st', i, rfl, hP, hB5, hf5, hum5⟩ := put_post Hw.out hkw HG.out (by have := HNN.out.li; rw [Hn1.out] at this; exact this) hE
        have HP := Lib.hid hP
        have HB5 := Lib.hid hB5
        have Hf5 := Lib.hid ((RFrm.out HB.out.gs HB.out.bb (grown_of_below Hb1.out none) (by simp)).trans (HNN.out.fr.trans hf5))
        have Hum := Lib.hid hum5
        have hct : evc.length + 2 ≤ evs.length + 2 * 2 ^ bel ws k := by
          have h1 := HNN.out.ct
          have h2 := Hn2.out
          rw [← HM1.out, ← Hnb.out] at h1
          rw [← HM0.out]; omega
        have Hct := Lib.hid hct
        clear hP hB5 hf5 hum5 hE hct
        cases is with
        | false =>
          have HE := Lib.hid (show RBlkE F l ws st evs k a w (.returned (.int .i64 (i : Int))) w5 from ⟨st', evc, i, rfl, HP.out, HB5.out, Hf5.out, by have := Hct.out; omega⟩)
          go_wp2
          go_ret
          exact HE.out
        | true =>
          obtain ⟨ve5, b1, b2⟩ := HB5.out.xb
          have d3 := b1.cell 3
          have hbz := HB5.out.sz
          have f3 := b1.frozen 3
          obtain ⟨i1, hi, hz0, hz1', hz2'⟩ := info_parts Try.infoT87
          have hlen : evc.length ≤ 1000000000 := by have := Hct.out; rw [← HM0.out] at this; omega
          have hv5 : w5.cell? ⟨F.bb, 3, none⟩ = some ve5 := d3
          have HEV := Lib.hid (show ∀ (u : World) (v' : Value), w5.grownBy u ve5.ownBlock → u.ownsRow F.H0 87 3 v' (evc.length + 1) (evc.flatMap spv ++ [.int .i64 ((k : Int) + 1), .int .i64 v, .int .i64 (i : Int)]) → (v'.ownBlock = ve5.ownBlock ∨ v'.ownBlock = some (w5.heap.size + 1)) → RBlkE F l ws st evs k a w (.returned (.int .i64 (i : Int))) (u.setCell ⟨F.bb, 3, none⟩ v') from fun u v' q1 q2 q3 =>
            rb_even HF.out hkw HP.out HB5.out Hf5.out hv5 (Hnone.out (by first | rfl | trivial)) (fun y => HB1.out.um k y) Hum.out (Hv.out (by first | rfl | trivial)) Hct.out q1 q2 q3)
          have B2 := Lib.hid b2
          have hHb := HF.out.hb
          have HK := Lib.hid (show ∀ u, w5.grownBy u ve5.ownBlock → u.cell? ⟨F.bb, 3, none⟩ = some ve5 ∧ u.frozen? ⟨F.bb, 3, none⟩ = false from fun u hu => by
            have e1 : u.heap[F.bb]? = w5.heap[F.bb]? := hu.block _ HB5.out.bb (fun e => by have := (b2.lt _ e.symm).1; omega)
            exact ⟨(World.cell?_of_block e1).trans hv5, (World.frozen?_of_block e1).trans f3⟩)
          clear b1 b2 hv5 hHb
          go_wp2_with (at_builtin; refine wpList_app3 rfl (.tmp 134) (.tmp 139) 61 rfl Try.underlying61 hi hz0 hz1' hz2' rfl (by omega) (by omega) w5 _ _ _ rfl B2.out #[.int .i64 ((k : Int) + 1), .int .i64 v, .int .i64 (i : Int)] rfl rfl (by intro u hu; simp at hu; rcases hu with rfl | rfl | rfl <;> rfl) (by omega) hbz ?_; intro v8 w8 ho8 hb8 hg8 hat8; have hg9 : w5.grownBy w8 ve5.ownBlock := hg8; have hat9 : v8.ownBlock = ve5.ownBlock ∨ v8.ownBlock = some (w5.heap.size + 1) := hat8; clear hg8 hat8; have HE := Lib.hid (HEV.out w8 v8 hg9 ho8 hat9); obtain ⟨A10, c10, rfl, _, _⟩ := val_of_ownS ho8; obtain ⟨k1, k2⟩ := HK.out w8 hg9; clear hg9 hat9 ho8 hb8)
          go_ret
          exact HE.out
theorem rblock_any (F : RF) (hF : F.ok) (l : List (Int × Int × Int)) (ws : List Int) (hw : okW ws) (hl : W64s l) (hm : ws.length = F.m) : ∀ (d k : Nat), k + d + 1 = F.m → RBlkC F l ws k := by
  intro d
  induction d with
  | zero => intro k hk; exact rblock_step F hF l ws hw hl hm k (by omega) (fun h => absurd h (by omega))
  | succ d ih => intro k hk; exact rblock_step F hF l ws hw hl hm k (by omega) (fun _ => ih (k + 1) (by omega))
end Go.Proofs.Ytnlmikefihaldaa
