/- The reference's ReadPool of layer 15. -/
import Derived.Test.YthpngcfggnhdjaaRows2
namespace Go.Proofs.Ythpngcfggnhdjaa
open Go.RowKit Go.Proofs.Img

def RPRel (w : World) (body : List UInt8) (v at_ i : Value) (wr : World) : Prop :=
  ∃ (j m : Nat) (vs : List Value) (ls : List (List Int)), j ≤ 3 ∧ i = .int .i64 (j : Int) ∧ m ≤ body.length ∧ at_ = .int .i64 (m : Int) ∧ Hid (ls.length = j) ∧ Hid (lists 3 body = preL ls m (lists (3 - j) (body.drop m))) ∧
    wr.ownsRow (w.heap.size + 1) 26 1 v j vs ∧ Hid (RowsIn wr (w.heap.size + 1) vs ls v.ownBlock) ∧ Hid (∀ g, v.ownBlock = some g → g < wr.heap.size) ∧ Hid (Blk wr w.heap.size 42 #[.slice none 0 0, .slice none 0 0, .slice none 0 0]) ∧ Hid (Below w.heap.size w wr)
/-- what ReadPool makes of a body -/
def bodyR (body : List UInt8) : Pl × Int := match bodyP body with
  | .error e => (Pl.none, e)
  | .ok p => if p.ok = true then (p, 0) else (Pl.none, 11)
theorem bodyR_err {body : List UInt8} {c : Int} (h : lists 3 body = .error c) : bodyR body = (Pl.none, c) := by rw [bodyR, bodyP_lists, h]
theorem bodyR_short {body : List UInt8} {ls : List (List Int)} {m : Nat} (h : lists 3 body = .ok (ls, m)) (hm : m ≠ body.length) : bodyR body = (Pl.none, 2) := by
  rw [bodyR, bodyP_lists, h]; simp only; rw [if_neg hm]
theorem bodyR_ok {body : List UInt8} {a b c : List Int} {m : Nat} (h : lists 3 body = .ok ([a, b, c], m)) (hm : m = body.length) : bodyR body = if okP a.length b c = true then (⟨a, b, c⟩, 0) else (Pl.none, 11) := by
  rw [bodyR, bodyP_lists, h]; simp only; rw [if_pos hm]; rfl
theorem readL_len {l : List UInt8} {xs : List Int} {k : Nat} (h : readL l = .ok (xs, k)) : xs.length ≤ l.length := by
  have h1 := (readL_min h).2.1
  have h2 := congrArg List.length h1
  rw [List.length_take] at h2
  have := len_intsB xs
  omega
theorem lists_len : ∀ (n : Nat) (s : List UInt8) (ls : List (List Int)) (m : Nat), lists n s = .ok (ls, m) → ∀ xs ∈ ls, xs.length ≤ s.length := by
  intro n
  induction n with
  | zero => intro s ls m h xs hx; simp [lists] at h; obtain ⟨rfl, _⟩ := h; simp at hx
  | succ n ih =>
    intro s ls m h xs hx
    rw [lists] at h
    cases h1 : readL s with
    | error e => rw [h1] at h; cases h
    | ok r =>
      obtain ⟨y, k⟩ := r
      rw [h1] at h
      simp only at h
      cases h2 : lists n (s.drop k) with
      | error e => rw [h2] at h; cases h
      | ok r =>
        obtain ⟨zs, q⟩ := r
        rw [h2] at h
        simp only at h
        injection h with h
        injection h with h3 h4
        subst h3
        rcases List.mem_cons.1 hx with rfl | hx
        · exact readL_len h1
        · have := ih _ _ _ h2 xs hx
          rw [List.length_drop] at this
          omega
theorem rpost_of {body : List UInt8} {p : Pl} {e : Int} {w : World} {x : Ending} {w' : World} (h : bodyR body = (p, e)) (hp : RPost p e w x w') : RPost (bodyR body).1 (bodyR body).2 w x w' := by rw [h]; exact hp
set_option maxRecDepth 100000 in
set_option maxHeartbeats 4000000 in
theorem refPool_open (s body : List UInt8) (c : Int) (w : World) (hl : s.length ≤ 1000000) (hO : openR s = (body, c)) (hc : c ≠ 0) :
    Calls Try.prog 25 #[.string ⟨s.toArray⟩] w (RPost Pl.none c w) := by
  have HO := Lib.hid hO
  have hc' : (c != 0) = true := by simp; exact hc
  clear hO hc
  have bW0 := newBl w (.cells #[.slice none 0 0, .slice none 0 0, .slice none 0 0] 42)
  have hR0 := Blk.new w 42 #[.slice none 0 0, .slice none 0 0, .slice none 0 0]
  go_enter Try.func25, Try.ntmps25
  go_wp2_with fail
  obtain ⟨W0, hW0⟩ : ∃ W, W = w.alloc (.cells #[.slice none 0 0, .slice none 0 0, .slice none 0 0] 42) := ⟨_, rfl⟩
  have hs0 : w.heap.size + 1 = W0.heap.size := by rw [hW0]; simp
  rw [← hW0] at bW0 hR0 ⊢
  have HS0 := Lib.hid hs0
  clear hW0 hs0
  refine (refopen_any s W0 hl).mono ?_
  rintro x w1 ⟨rfl, hb1⟩
  rw [HO.out]
  have hR1 := stayBl hR0 hb1
  have bW1 := bW0.trans (hb1.mono bW0.size)
  have hs1 : w.heap.size + 1 ≤ w1.heap.size := by have := HS0.out; have := hb1.size; omega
  clear hR0 bW0 hb1
  have hF := hR1
  have z0 := hF.cell 0
  have z1 := hF.cell 1
  have z2 := hF.cell 2
  have f0 := hF.frozen 0
  have f1 := hF.frozen 1
  have f2 := hF.frozen 2
  have hF2 := ((hF.set_ 0 (.slice none 0 0)).set_ 1 (.slice none 0 0)).set_ 2 (.slice none 0 0)
  have D := Lib.hid (And.intro (hF2.cell 0) (And.intro (hF2.cell 1) (hF2.cell 2)))
  have BF := Lib.hid (((bW1.setCell (p := ⟨w.heap.size, 0, none⟩) (by simp) (.slice none 0 0)).setCell (p := ⟨w.heap.size, 1, none⟩) (by simp) (.slice none 0 0)).setCell (p := ⟨w.heap.size, 2, none⟩) (by simp) (.slice none 0 0))
  clear hF2
  go_wp2
  obtain ⟨d0, d1, d2⟩ := D.out
  have bF := BF.out
  clear D BF z0 z1 z2 f0 f1 f2 hF
  generalize World.setCell (World.setCell (World.setCell _ ⟨w.heap.size, 0, none⟩ (.slice none 0 0)) ⟨w.heap.size, 1, none⟩ (.slice none 0 0)) ⟨w.heap.size, 2, none⟩ (.slice none 0 0) = V at d0 d1 d2 bF ⊢
  exact bodyPost_ret (v := .tuple #[.agg #[.slice none 0 0, .slice none 0 0, .slice none 0 0], .int .i64 c]) (by simp [results, Try.results25, go_sem] at d0 d1 d2 ⊢; simp [d0, d1, d2]) rfl (rpost_none bF)
set_option maxRecDepth 100000 in
set_option maxHeartbeats 4000000 in
theorem refPool_body (s body : List UInt8) (w : World) (hl : s.length ≤ 1000000) (hbl : body.length ≤ 1000000) (hO : openR s = (body, 0)) :
    Calls Try.prog 25 #[.string ⟨s.toArray⟩] w (RPost (bodyR body).1 (bodyR body).2 w) := by
  have HO := Lib.hid hO
  clear hO
  have bW0 := newBl w (.cells #[.slice none 0 0, .slice none 0 0, .slice none 0 0] 42)
  have hR0 := Blk.new w 42 #[.slice none 0 0, .slice none 0 0, .slice none 0 0]
  go_enter Try.func25, Try.ntmps25
  go_wp2_with fail
  obtain ⟨W0, hW0⟩ : ∃ W, W = w.alloc (.cells #[.slice none 0 0, .slice none 0 0, .slice none 0 0] 42) := ⟨_, rfl⟩
  have hs0 : w.heap.size + 1 = W0.heap.size := by rw [hW0]; simp
  rw [← hW0] at bW0 hR0 ⊢
  have HS0 := Lib.hid hs0
  clear hW0 hs0
  refine (refopen_any s W0 hl).mono ?_
  rintro x w1 ⟨rfl, hb1⟩
  rw [HO.out]
  have hR1 := stayBl hR0 hb1
  have bW1 := bW0.trans (hb1.mono bW0.size)
  have hs1 : w.heap.size + 1 ≤ w1.heap.size := by have := HS0.out; have := hb1.size; omega
  clear hR0 bW0 hb1
  go_wp2
  go_loopw [6, 7, 8] (fun v at_ i wr => RPRel w body v at_ i wr) (fun _ _ i _ => 3 - (intOf i).toNat)
  case atStart => exact ⟨0, 0, [], [], by omega, rfl, by omega, rfl, rfl, by show lists 3 body = preL [] 0 (lists (3 - 0) (body.drop 0)); rw [preL_nil]; rfl, World.ownsRow_nil _ _ _ _, RowsIn.nil _ _ _, by intro g h; simp [Value.ownBlock] at h, hR1, bW1⟩
  case round =>
    obtain ⟨j, m, vs, ls, hj, rfl, hm, rfl, Hls, Hsp, ho, HRows, Hob, HR, Hb⟩ := hrel
    have hsz : w.heap.size + 1 ≤ wr.heap.size := HR.out.lt
    by_cases hlt : j < 3
    · have hx1 := ext_dropP body m
      have hTl : (body.drop m).length ≤ 1000000 := by rw [List.length_drop]; omega
      cases hL : readL (body.drop m) with
      | error c =>
        have HL := Lib.hid hL
        have hc : (c != 0) = true := by have := readL_code hL; simp; exact this
        have HE := Lib.hid (bodyR_err (show lists 3 body = .error c by rw [Hsp.out, show 3 - j = (3 - j - 1) + 1 by omega, preL_err ls m _ body c hL]))
        clear hL
        generalize body.drop m = T at hx1 hTl HL
        go_wp2_with fail
        refine (refreadInts_err T c _ hTl HL.out).mono ?_
        rintro x w2 ⟨rfl, hb2⟩
        have hR9 := stayBl HR.out hb2
        have b9 := Hb.out.trans (hb2.mono Hb.out.size)
        clear hb2 hx1
        have hF := hR9
        have z0 := hF.cell 0
        have z1 := hF.cell 1
        have z2 := hF.cell 2
        have f0 := hF.frozen 0
        have f1 := hF.frozen 1
        have f2 := hF.frozen 2
        have hF2 := ((hF.set_ 0 (.slice none 0 0)).set_ 1 (.slice none 0 0)).set_ 2 (.slice none 0 0)
        have D := Lib.hid (And.intro (hF2.cell 0) (And.intro (hF2.cell 1) (hF2.cell 2)))
        have BF := Lib.hid (((b9.setCell (p := ⟨w.heap.size, 0, none⟩) (by simp) (.slice none 0 0)).setCell (p := ⟨w.heap.size, 1, none⟩) (by simp) (.slice none 0 0)).setCell (p := ⟨w.heap.size, 2, none⟩) (by simp) (.slice none 0 0))
        clear hF2
        go_wp2
        obtain ⟨d0, d1, d2⟩ := D.out
        have bF := BF.out
        clear D BF z0 z1 z2 f0 f1 f2 hF
        generalize World.setCell (World.setCell (World.setCell _ ⟨w.heap.size, 0, none⟩ (.slice none 0 0)) ⟨w.heap.size, 1, none⟩ (.slice none 0 0)) ⟨w.heap.size, 2, none⟩ (.slice none 0 0) = V at d0 d1 d2 bF ⊢
        exact bodyPost_ret (v := .tuple #[.agg #[.slice none 0 0, .slice none 0 0, .slice none 0 0], .int .i64 c]) (by simp [results, Try.results25, go_sem] at d0 d1 d2 ⊢; simp [d0, d1, d2]) rfl (rpost_of HE.out (rpost_none bF))
      | ok r =>
        obtain ⟨y, k⟩ := r
        have HL := Lib.hid hL
        have hmk : m + k ≤ body.length := readL_le hL hm
        have Hnx := Lib.hid (show lists 3 body = preL (ls ++ [y]) (m + k) (lists (3 - (j + 1)) (body.drop (m + k))) by
          rw [Hsp.out, show 3 - j = (3 - (j + 1)) + 1 by omega, preL_ok ls m _ body y k hL])
        clear hL
        generalize body.drop m = T at hx1 hTl HL
        go_wp2_with fail
        refine (refreadInts_ok T y k _ hTl HL.out).mono ?_
        rintro x w2 ⟨v2, rfl, ho2, hb2⟩
        obtain ⟨A, c, rfl, _, hr2⟩ := val_of_own ho2
        have hne : ∀ ad, A = some ad → 0 < y.length → w.heap.size + 1 ≤ ad.block ∧ u6.ownBlock ≠ some ad.block := fun ad ha h0 => by
          have h1 := own_loc ho2 h0 ad ha
          refine ⟨by omega, fun e => ?_⟩
          have h2 := Hob.out _ e
          omega
        have Hne := Lib.hid hne
        have HRows2 := Lib.hid (HRows.out.stay hb2)
        have ho3 := own_below ho hb2
        have HR2 := Lib.hid (stayBl HR.out hb2)
        have Hb2 := Lib.hid (Hb.out.trans (hb2.mono Hb.out.size))
        have hsz2 : w.heap.size + 1 ≤ w2.heap.size := by have := hb2.size; omega
        clear ho2 hb2 hne
        go_wp2_with (at_builtin; go_must (refine wpList_appRow rfl (.tmp 38) (.tmp 40) rfl w2 u6 j vs ls rfl ho3 A c y rfl HRows2.out hr2 Hne.out (by omega) hsz2 ?_); intro v5 w5 ho5 hR5 hb5 hg5)
        have HR5 := Lib.hid hR5
        have HG5 := Lib.hid hg5
        clear hR5 hg5
        go_roundw
        case rel => exact ⟨j + 1, m + k, _, _, by omega, by go_num, hmk, by go_num, by show (ls ++ [y]).length = j + 1; have := Hls.out; simp; omega, Hnx.out, ho5, HR5.out, HG5.out, HR2.out.below hb5 (by omega), Hb2.out.trans (hb5.mono (by omega))⟩
        case measure => simp [intOf]; omega
    · obtain rfl : j = 3 := by omega
      have hsp := Hsp.out
      simp only [Nat.sub_self, lists, preL, List.append_nil, Nat.add_zero] at hsp
      have hls := Hls.out
      have hvs : vs.length = 3 := by have := HRows.out.1; omega
      obtain ⟨a, b, c, rfl⟩ : ∃ a b c, ls = [a, b, c] := by
        match ls, hls with
        | [a, b, c], _ => exact ⟨a, b, c, rfl⟩
      obtain ⟨u0, u1, u2, rfl⟩ : ∃ a b c, vs = [a, b, c] := by
        match vs, hvs with
        | [a, b, c], _ => exact ⟨a, b, c, rfl⟩
      by_cases hend : m = body.length
      · have HE := Lib.hid (bodyR_ok hsp hend)
        have hend' : ¬ (m : Int) < (body.length : Int) := by omega
        obtain ⟨A0, c0, rfl, r0, q0⟩ := HRows.out.2 0 u0 a rfl rfl
        have Q0 := Lib.hid (fun ad ha h0 => (q0 ad ha h0).1)
        clear q0
        obtain ⟨A1, c1, rfl, r1, q1⟩ := HRows.out.2 1 u1 b rfl rfl
        have Q1 := Lib.hid (fun ad ha h0 => (q1 ad ha h0).1)
        clear q1
        obtain ⟨A2, c2, rfl, r2, q2⟩ := HRows.out.2 2 u2 c rfl rfl
        have Q2 := Lib.hid (fun ad ha h0 => (q2 ad ha h0).1)
        clear q2
        obtain ⟨g, cap, hv, _, hglt⟩ := ho.form (by omega)
        subst hv
        have e0 : wr.cell? ⟨g, 0, none⟩ = some (.slice A0 a.length c0) := ho.cells rfl 0 _ rfl
        have e1 : wr.cell? ⟨g, 1, none⟩ = some (.slice A1 b.length c1) := ho.cells rfl 1 _ rfl
        have e2 : wr.cell? ⟨g, 2, none⟩ = some (.slice A2 c.length c2) := ho.cells rfl 2 _ rfl
        have hla : a.length ≤ 1000000 := by have := lists_len 3 body _ m hsp a (by simp); omega
        have hlb : b.length ≤ 1000000 := by have := lists_len 3 body _ m hsp b (by simp); omega
        clear hsp hls hvs hend Hls Hsp
        go_wp2
        go_region_held3 (fun w' => w'.cell? ⟨g, 0, none⟩ = some (.slice A0 a.length c0) ∧ w'.cell? ⟨g, 1, none⟩ = some (.slice A1 b.length c1) ∧ w'.cell? ⟨g, 2, none⟩ = some (.slice A2 c.length c2)) (first | go_keep) (first | fail)
        all_goals
          have bN := (newBl wr (.cells #[.slice A0 a.length c0, .slice A1 b.length c1, .slice A2 c.length c2] 42)).drew
          have hP := (Blk.new wr 42 #[.slice A0 a.length c0, .slice A1 b.length c1, .slice A2 c.length c2]).drew
          obtain ⟨W, hW⟩ : ∃ W, W = (wr.alloc (.cells #[.slice A0 a.length c0, .slice A1 b.length c1, .slice A2 c.length c2] 42)).drew := ⟨_, rfl⟩
          rw [← hW] at bN hP ⊢
          clear hW
          have r0' := stayR r0 bN
          have r1' := stayR r1 bN
          have r2' := stayR r2 bN
          have hR9 := stayBl HR.out bN
          have b9 := Hb.out.trans (bN.mono Hb.out.size)
          clear r0 r1 r2 e0 e1 e2 bN
          have y0 := hP.cell 0
          have y1 := hP.cell 1
          have y2 := hP.cell 2
          go_wp2_with fail
          clear y0 y1 y2
          refine (refvalid_any A0 A1 A2 a.length c0 b.length c1 c.length c2 b c W r1' r2' hla hlb).mono ?_
          rintro x w6 ⟨rfl, bb⟩
          cases hv : okP a.length b c with
          | false =>
            have HE2 := Lib.hid (HE.out.trans (by rw [hv]))
            clear hv
            have hR10 := stayBl hR9 bb
            have b10 := b9.trans (bb.mono b9.size)
            clear hR9 b9
            have hF := hR10
            have z0 := hF.cell 0
            have z1 := hF.cell 1
            have z2 := hF.cell 2
            have f0 := hF.frozen 0
            have f1 := hF.frozen 1
            have f2 := hF.frozen 2
            have hF2 := ((hF.set_ 0 (.slice none 0 0)).set_ 1 (.slice none 0 0)).set_ 2 (.slice none 0 0)
            have D := Lib.hid (And.intro (hF2.cell 0) (And.intro (hF2.cell 1) (hF2.cell 2)))
            have BF := Lib.hid (((b10.setCell (p := ⟨w.heap.size, 0, none⟩) (by simp) (.slice none 0 0)).setCell (p := ⟨w.heap.size, 1, none⟩) (by simp) (.slice none 0 0)).setCell (p := ⟨w.heap.size, 2, none⟩) (by simp) (.slice none 0 0))
            clear hF2
            go_wp2
            obtain ⟨d0, d1, d2⟩ := D.out
            have bF := BF.out
            clear D BF z0 z1 z2 f0 f1 f2 hF
            generalize World.setCell (World.setCell (World.setCell _ ⟨w.heap.size, 0, none⟩ (.slice none 0 0)) ⟨w.heap.size, 1, none⟩ (.slice none 0 0)) ⟨w.heap.size, 2, none⟩ (.slice none 0 0) = V at d0 d1 d2 bF ⊢
            exact bodyPost_ret (v := .tuple #[.agg #[.slice none 0 0, .slice none 0 0, .slice none 0 0], .int .i64 11]) (by simp [results, Try.results25, go_sem] at d0 d1 d2 ⊢; simp [d0, d1, d2]) rfl (rpost_of HE2.out (rpost_none bF))
          | true =>
            have HE2 := Lib.hid (HE.out.trans (by rw [hv]))
            clear hv
            have hR10 := stayBl hR9 bb
            have hP10 := stayBl hP bb
            have b10 := b9.trans (bb.mono b9.size)
            have k0 := stayR r0' bb
            have k1 := stayR r1' bb
            have k2 := stayR r2' bb
            clear hR9 b9
            have y0 := hP10.cell 0
            have y1 := hP10.cell 1
            have y2 := hP10.cell 2
            have z0 := hR10.cell 0
            have z1 := hR10.cell 1
            have z2 := hR10.cell 2
            have f0 := hR10.frozen 0
            have f1 := hR10.frozen 1
            have f2 := hR10.frozen 2
            have hF2 := ((hR10.set_ 0 (.slice A0 a.length c0)).set_ 1 (.slice A1 b.length c1)).set_ 2 (.slice A2 c.length c2)
            have D := Lib.hid (And.intro (hF2.cell 0) (And.intro (hF2.cell 1) (hF2.cell 2)))
            have BF := Lib.hid (((b10.setCell (p := ⟨w.heap.size, 0, none⟩) (by simp) (.slice A0 a.length c0)).setCell (p := ⟨w.heap.size, 1, none⟩) (by simp) (.slice A1 b.length c1)).setCell (p := ⟨w.heap.size, 2, none⟩) (by simp) (.slice A2 c.length c2))
            have RR := Lib.hid (And.intro (reads_3 (b := w.heap.size) k0 Q0.out (by omega) (.slice A0 a.length c0) (.slice A1 b.length c1) (.slice A2 c.length c2)) (And.intro (reads_3 (b := w.heap.size) k1 Q1.out (by omega) (.slice A0 a.length c0) (.slice A1 b.length c1) (.slice A2 c.length c2)) (reads_3 (b := w.heap.size) k2 Q2.out (by omega) (.slice A0 a.length c0) (.slice A1 b.length c1) (.slice A2 c.length c2))))
            clear hF2 k0 k1 k2 hR10 hP10 b10 r0' r1' r2' hP
            go_wp2
            obtain ⟨d0, d1, d2⟩ := D.out
            obtain ⟨k0, k1, k2⟩ := RR.out
            have bF := BF.out
            clear D BF RR y0 y1 y2 z0 z1 z2 f0 f1 f2
            generalize World.setCell (World.setCell (World.setCell _ ⟨w.heap.size, 0, none⟩ (.slice A0 a.length c0)) ⟨w.heap.size, 1, none⟩ (.slice A1 b.length c1)) ⟨w.heap.size, 2, none⟩ (.slice A2 c.length c2) = V at d0 d1 d2 bF k0 k1 k2 ⊢
            exact bodyPost_ret (v := .tuple #[.agg #[.slice A0 a.length c0, .slice A1 b.length c1, .slice A2 c.length c2], .int .i64 0]) (by simp [results, Try.results25, go_sem] at d0 d1 d2 ⊢; simp [d0, d1, d2]) rfl (rpost_of HE2.out ⟨A0, c0, A1, c1, A2, c2, rfl, k0, k1, k2, bF⟩)
      · have HE := Lib.hid (bodyR_short hsp hend)
        have hend' : (m : Int) < (body.length : Int) := by omega
        have hR9 := HR.out
        have b9 := Hb.out
        clear hsp hls hvs hend
        have hF := hR9
        have z0 := hF.cell 0
        have z1 := hF.cell 1
        have z2 := hF.cell 2
        have f0 := hF.frozen 0
        have f1 := hF.frozen 1
        have f2 := hF.frozen 2
        have hF2 := ((hF.set_ 0 (.slice none 0 0)).set_ 1 (.slice none 0 0)).set_ 2 (.slice none 0 0)
        have D := Lib.hid (And.intro (hF2.cell 0) (And.intro (hF2.cell 1) (hF2.cell 2)))
        have BF := Lib.hid (((b9.setCell (p := ⟨w.heap.size, 0, none⟩) (by simp) (.slice none 0 0)).setCell (p := ⟨w.heap.size, 1, none⟩) (by simp) (.slice none 0 0)).setCell (p := ⟨w.heap.size, 2, none⟩) (by simp) (.slice none 0 0))
        clear hF2
        go_wp2
        obtain ⟨d0, d1, d2⟩ := D.out
        have bF := BF.out
        clear D BF z0 z1 z2 f0 f1 f2 hF
        generalize World.setCell (World.setCell (World.setCell _ ⟨w.heap.size, 0, none⟩ (.slice none 0 0)) ⟨w.heap.size, 1, none⟩ (.slice none 0 0)) ⟨w.heap.size, 2, none⟩ (.slice none 0 0) = V at d0 d1 d2 bF ⊢
        exact bodyPost_ret (v := .tuple #[.agg #[.slice none 0 0, .slice none 0 0, .slice none 0 0], .int .i64 2]) (by simp [results, Try.results25, go_sem] at d0 d1 d2 ⊢; simp [d0, d1, d2]) rfl (rpost_of HE.out (rpost_none bF))
theorem refPool_any (s : List UInt8) (p : Pl) (e : Int) (w : World) (hl : s.length ≤ 1000000) (hR : poolR s = (p, e)) : Calls Try.prog 25 #[.string ⟨s.toArray⟩] w (RPost p e w) := by
  have hol := openR_len s
  obtain ⟨⟨body, eo⟩, hO⟩ : ∃ x, openR s = x := ⟨_, rfl⟩
  rw [hO] at hol
  simp only at hol
  unfold poolR at hR
  rw [hO] at hR
  simp only at hR
  by_cases h0 : eo = 0
  · subst h0
    rw [if_neg (by simp)] at hR
    have hb : bodyR body = (p, e) := hR
    have := refPool_body s body w hl (by omega) hO
    rw [hb] at this
    exact this
  · rw [if_pos h0] at hR
    simp only [Prod.mk.injEq] at hR
    obtain ⟨rfl, rfl⟩ := hR
    exact refPool_open s body _ w hl hO h0
end Go.Proofs.Ythpngcfggnhdjaa
