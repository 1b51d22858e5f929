/- The reference's ReadTable. -/
import Derived.Test.YthpngcfggnhdjaaTd
namespace Go.Proofs.Ythpngcfggnhdjaa
open Go.RowKit Go.Proofs.Img

/-- 'append(rows, row)', with what is known of the blocks -/
theorem wpList_appRow2 {ops : Array Oper} {rest : List Oper} {o : Oper} {a : Act} {Q : Exit → Act → World → Prop} (hgd : o.guard = none) (s x : Operand)
    (ho : o.op = .call { callee := .builtin .append, args := #[s, x], argTypes := #[49, 49] })
    {base : Nat} (w0 : World) (v : Value) (n : Nat) (vs : List Value) (ls : List (List Int)) (hs : a.eval s = v) (hown : w0.ownsRow base 26 1 v n vs)
    (A : Option Addr) (c : Nat) (xs : List Int) (hx : a.eval x = .slice (some ⟨w0.heap.size, 0, none⟩) 1 1)
    (hR : RowsIn w0 base vs ls v.ownBlock) (hr : Reads w0 w0.heap.size 1 A xs.length (xs.map iv)) (hne : ∀ ad, A = some ad → 0 < xs.length → base ≤ ad.block ∧ v.ownBlock ≠ some ad.block)
    (hn : n ≤ 1000000000) (hbase : base ≤ w0.heap.size)
    (h : ∀ v' w', w'.ownsRow base 26 1 v' (n + 1) (vs ++ [.slice A xs.length c]) → RowsIn w' base (vs ++ [.slice A xs.length c]) (ls ++ [xs]) v'.ownBlock → (w0.alloc (.cells #[.slice A xs.length c] 26)).grownBy w' v.ownBlock →
      (v'.ownBlock = v.ownBlock ∨ ∃ N, v'.ownBlock = some N ∧ (w0.alloc (.cells #[.slice A xs.length c] 26)).heap.size ≤ N) → wpList Try.prog ops Q rest (a.put o.dst v') w') :
    wpList Try.prog ops Q (o :: rest) a (w0.alloc (.cells #[.slice A xs.length c] 26)) := by
  obtain ⟨i0, hi, hz0, hz1, hz2⟩ := info_parts Try.info26
  refine wpList_append_lies _ hgd s x 49 ho base 26 i0 _ 1 24 Try.underlying49 hi hz0 hz1 hz2 rfl (by omega) v n vs hs (hown.alloc _) ⟨w0.heap.size, 0, none⟩ 1 1 [.slice A xs.length c] hx rfl (cell_one_new _ _ _)
    (by simp [Value.oneCell']) (by omega) (by unfold maxLen; omega) (by omega) (by simp; omega) (w0.heap.size + 1) (by simp) ?_
  intro g cap w' h1 h2 h3 h4
  have hst := newBl w0 (.cells #[.slice A xs.length c] 26)
  have hall := (hR.add (A := A) (c := c) (xs := xs) hr hne).stay hst
  refine h _ w' h1 (hall.grow h2 ?_) h2 ?_
  · rcases h3 with h3 | h3
    · left; rw [h3]; rfl
    · right; exact ⟨g, rfl, by simp; omega⟩
  · rcases h3 with h3 | h3
    · left; rw [h3]; rfl
    · right; exact ⟨g, rfl, by simp; omega⟩
structure TeRel (l : List UInt8) (ws : List Int) (k0 tb : Nat) (A : Option Addr) (c : Nat) (w : World) (j m : Nat) (vs : List Value) (ls : List (List Int)) (v : Value) (wr : World) : Prop where
  len : ls.length = j
  le : k0 + m ≤ l.length
  lst : lists (ws.length + 1) (l.drop k0) = preL ls m (lists (ws.length + 1 - j) ((l.drop k0).drop m))
  own : wr.ownsRow (tb + 1) 26 1 v j vs
  cap : Capped vs
  rows : RowsIn wr (tb + 1) vs ls v.ownBlock
  tab : Blk wr tb 51 #[.slice A ws.length c, v]
  wid : RowsIn wr (tb + 1) [.slice A ws.length c] [ws] v.ownBlock
  res : Blk wr w.heap.size 51 #[.slice none 0 0, .slice none 0 0]
  bel : Below w.heap.size w wr
theorem te_next {l : List UInt8} {ws : List Int} {k0 tb : Nat} {A : Option Addr} {c : Nat} {w : World} {j m : Nat} {vs : List Value} {ls : List (List Int)} {v : Value} {y : List Int} {k : Nat} {A2 : Option Addr} {c2 : Nat} {wr u w5 : World} {A5 : Option Addr} {c5 : Nat}
    (HT : TeRel l ws k0 tb A c w j m vs ls v wr) (htb : w.heap.size < tb) (hb : Below wr.heap.size wr u) (hle : k0 + m + k ≤ l.length) (hlst : lists (ws.length + 1) (l.drop k0) = preL (ls ++ [y]) (m + k) (lists (ws.length + 1 - (j + 1)) ((l.drop k0).drop (m + k)))) (hcap : y.length ≤ c2)
    (ho5 : w5.ownsRow (tb + 1) 26 1 (.slice A5 (j + 1) c5) (j + 1) (vs ++ [.slice A2 y.length c2])) (hR5 : RowsIn w5 (tb + 1) (vs ++ [.slice A2 y.length c2]) (ls ++ [y]) (Value.slice A5 (j + 1) c5).ownBlock)
    (hg5 : (u.alloc (.cells #[.slice A2 y.length c2] 26)).grownBy w5 v.ownBlock) (hv5 : (Value.slice A5 (j + 1) c5).ownBlock = v.ownBlock ∨ ∃ N, (Value.slice A5 (j + 1) c5).ownBlock = some N ∧ (u.alloc (.cells #[.slice A2 y.length c2] 26)).heap.size ≤ N) :
    TeRel l ws k0 tb A c w (j + 1) (m + k) (vs ++ [.slice A2 y.length c2]) (ls ++ [y]) (.slice A5 (j + 1) c5) (w5.setCell ⟨tb, 1, none⟩ (.slice A5 (j + 1) c5)) ∧ Blk w5 tb 51 #[.slice A ws.length c, v] := by
  have hown : ∀ g, v.ownBlock = some g → tb + 1 ≤ g := fun g e => (HT.own.lt g e).1
  have hnb : some tb ≠ v.ownBlock := fun e => by have := hown _ e.symm; omega
  have hnr : some w.heap.size ≠ v.ownBlock := fun e => by have := hown _ e.symm; omega
  have hbu := HT.bel.trans (hb.mono HT.bel.size)
  have hsz := hbu.size
  have hbel : Below w.heap.size w w5 := hbu.trans (((Below.refl _ _).alloc hsz _).grown hg5 (by simp; omega) (fun g e => by have := hown g e; omega))
  have ht5 := ((stayBl HT.tab hb).alloc (.cells #[.slice A2 y.length c2] 26)).grown hg5 hnb
  have hr5 := ((stayBl HT.res hb).alloc (.cells #[.slice A2 y.length c2] 26)).grown hg5 hnr
  refine ⟨⟨by simp [HT.len], by omega, hlst, ownsRow_setCell_below ho5 (a := ⟨tb, 1, none⟩) (by simp) _, HT.cap.add hcap, hR5.set_ (by omega) _, ht5.set_ 1 _, (((HT.wid.stay hb).stay (newBl _ _)).grow hg5 hv5).set_ (by omega) _, Blk.far hr5 (p := ⟨tb, 1, none⟩) (by simp; omega) _, hbel.setCell (by simp; omega) _⟩, ht5⟩

set_option maxRecDepth 100000 in
set_option maxHeartbeats 4000000 in
theorem refTable_open (s body : List UInt8) (c : Int) (w : World) (hl : s.length ≤ 1000000) (hO : openR s = (body, c)) (hc : c ≠ 0) :
    Calls Try.prog 31 #[.string ⟨s.toArray⟩] w (TPost Tt.none c w) := by
  have HO := Lib.hid hO
  have hc' : (c != 0) = true := by simp; exact hc
  clear hO hc
  have bW0 := newBl w (.cells #[.slice none 0 0, .slice none 0 0] 51)
  have hR0 := Blk.new w 51 #[.slice none 0 0, .slice none 0 0]
  go_enter Try.func31, Try.ntmps31
  go_wp2_with fail
  obtain ⟨W0, hW0⟩ : ∃ W, W = w.alloc (.cells #[.slice none 0 0, .slice none 0 0] 51) := ⟨_, rfl⟩
  rw [← hW0] at bW0 hR0 ⊢
  clear hW0
  refine (refopen_any s W0 hl).mono ?_
  rintro x w1 ⟨rfl, hb1⟩
  rw [HO.out]
  have hR1 := stayBl hR0 hb1
  have bW1 := bW0.trans (hb1.mono bW0.size)
  clear hR0 bW0 hb1
  have hF := hR1
  have z0 := hF.cell 0
  have z1 := hF.cell 1
  have f0 := hF.frozen 0
  have f1 := hF.frozen 1
  have hF2 := (hF.set_ 0 (.slice none 0 0)).set_ 1 (.slice none 0 0)
  have bF := ((bW1.setCell (p := ⟨w.heap.size, 0, none⟩) (by simp) (.slice none 0 0)).setCell (p := ⟨w.heap.size, 1, none⟩) (by simp) (.slice none 0 0))
  have D := Lib.hid (And.intro (hF2.cell 0) (hF2.cell 1))
  have BF := Lib.hid bF
  clear bF hF2
  go_wp2
  obtain ⟨d0, d1⟩ := D.out
  have bF := BF.out
  clear D BF z0 z1 f0 f1 hF
  generalize World.setCell (World.setCell _ ⟨w.heap.size, 0, none⟩ (.slice none 0 0)) ⟨w.heap.size, 1, none⟩ (.slice none 0 0) = V at d0 d1 bF ⊢
  exact bodyPost_ret (v := .tuple #[.agg #[.slice none 0 0, .slice none 0 0], .int .i64 c]) (by simp [results, Try.results31, go_sem] at d0 d1 ⊢; simp [d0, d1]) rfl (tpost_none bF)

set_option maxRecDepth 100000 in
set_option maxHeartbeats 4000000 in
theorem refTable_body (s body : List UInt8) (t : Tt) (c : Int) (w : World) (hl : s.length ≤ 1000000) (hbl : body.length ≤ 1000000) (hO : openR s = (body, 0)) (hB : (bodyT body = .error c ∧ t = Tt.none) ∨ ∃ q, bodyT body = .ok q ∧ ((q.ok ∧ t = q ∧ c = 0) ∨ (¬ q.ok ∧ t = Tt.none ∧ c = 11))) :
    Calls Try.prog 31 #[.string ⟨s.toArray⟩] w (TPost t c w) := by
  have HO := Lib.hid hO
  have HB := Lib.hid hB
  have HE : Hid (∀ c', bodyT body = .error c' → t = Tt.none ∧ c = c') := by
    intro c' h
    rcases hB with ⟨h1, h2⟩ | ⟨q, h1, _⟩
    · rw [h] at h1; injection h1 with h1; exact ⟨h2, h1.symm⟩
    · rw [h] at h1; cases h1
  have HK : Hid (∀ q, bodyT body = .ok q → (q.ok ∧ t = q ∧ c = 0) ∨ (¬ q.ok ∧ t = Tt.none ∧ c = 11)) := by
    intro q' h
    rcases hB with ⟨h1, h2⟩ | ⟨q, h1, h2⟩
    · rw [h] at h1; cases h1
    · rw [h] at h1; injection h1 with h1; subst h1; exact h2
  clear hO hB HB
  have bW0 := newBl w (.cells #[.slice none 0 0, .slice none 0 0] 51)
  have hR0 := Blk.new w 51 #[.slice none 0 0, .slice none 0 0]
  go_enter Try.func31, Try.ntmps31
  go_wp2_with fail
  obtain ⟨W0, hW0⟩ : ∃ W, W = w.alloc (.cells #[.slice none 0 0, .slice none 0 0] 51) := ⟨_, rfl⟩
  rw [← hW0] at bW0 hR0 ⊢
  clear hW0
  refine (refopen_any s W0 hl).mono ?_
  rintro x w1 ⟨rfl, hb1⟩
  rw [HO.out]
  have hR1 := stayBl hR0 hb1
  have bW1 := bW0.trans (hb1.mono bW0.size)
  have hs1 : w.heap.size < w1.heap.size := hR1.lt
  clear hR0 bW0 hb1
  have hT2 := Blk.new w1 51 #[.slice none 0 0, .slice none 0 0]
  have hR2 := hR1.alloc (.cells #[.slice none 0 0, .slice none 0 0] 51)
  have bW2 := bW1.alloc bW1.size (.cells #[.slice none 0 0, .slice none 0 0] 51)
  clear hR1
  go_wp2_with fail
  obtain ⟨W2, hW2⟩ : ∃ W, W = w1.alloc (.cells #[.slice none 0 0, .slice none 0 0] 51) := ⟨_, rfl⟩
  have hs2 : w1.heap.size + 1 ≤ W2.heap.size := by rw [hW2]; simp
  rw [← hW2] at hT2 hR2 bW2 ⊢
  clear hW2
  cases hW : readL body with
  | error e =>
    obtain ⟨rfl, rfl⟩ := HE.out e (bodyT_w hW)
    have hc' : (c != 0) = true := by have := readL_code hW; simp; exact this
    refine (refreadInts_err body c W2 hbl hW).mono ?_
    rintro x w3 ⟨rfl, hb3⟩
    have hR3 := stayBl hR2 hb3
    have b3 := bW2.trans (hb3.mono bW2.size)
    clear hR2 bW2 hT2 hb3 hW HE HK
    have hF := hR3
    have z0 := hF.cell 0
    have z1 := hF.cell 1
    have f0 := hF.frozen 0
    have f1 := hF.frozen 1
    have hF2 := (hF.set_ 0 (.slice none 0 0)).set_ 1 (.slice none 0 0)
    have bF := ((b3.setCell (p := ⟨w.heap.size, 0, none⟩) (by simp) (.slice none 0 0)).setCell (p := ⟨w.heap.size, 1, none⟩) (by simp) (.slice none 0 0))
    have D := Lib.hid (And.intro (hF2.cell 0) (hF2.cell 1))
    have BF := Lib.hid bF
    clear bF hF2
    go_wp2
    obtain ⟨d0, d1⟩ := D.out
    have bF := BF.out
    clear D BF z0 z1 f0 f1 hF
    generalize World.setCell (World.setCell _ ⟨w.heap.size, 0, none⟩ (.slice none 0 0)) ⟨w.heap.size, 1, none⟩ (.slice none 0 0) = V at d0 d1 bF ⊢
    exact bodyPost_ret (v := .tuple #[.agg #[.slice none 0 0, .slice none 0 0], .int .i64 c]) (by simp [results, Try.results31, go_sem] at d0 d1 ⊢; simp [d0, d1]) rfl (tpost_none bF)
  | ok r =>
    obtain ⟨ws, k0⟩ := r
    have HW := Lib.hid hW
    have hk0 : 0 + k0 ≤ body.length := readL_le (show readL (body.drop 0) = .ok (ws, k0) from hW) (by omega)
    rw [Nat.zero_add] at hk0
    have hwl : ws.length ≤ 1000000 := by have := readL_len hW; omega
    refine (refreadInts_ok body ws k0 W2 hbl hW).mono ?_
    rintro x w3 ⟨v3, rfl, ho3, hb3⟩
    clear hW
    obtain ⟨A, d, rfl, hcap, hrd⟩ := val_of_own ho3
    have hR3 := stayBl hR2 hb3
    have hT3 := stayBl hT2 hb3
    have b3 := bW2.trans (hb3.mono bW2.size)
    have hw3 : RowsIn w3 (w1.heap.size + 1) [.slice A ws.length d] [ws] none := RowsIn.one hrd (fun ad ha h0 => ⟨by have := own_loc ho3 h0 ad ha; omega, by simp⟩)
    clear ho3 hrd hR2 hT2 bW2 hb3
    have z0 := hT3.cell 0
    have f0 := hT3.frozen 0
    have HT4 := Lib.hid (show Blk (w3.setCell ⟨w1.heap.size, 0, none⟩ (.slice A ws.length d)) w1.heap.size 51 #[.slice A ws.length d, .slice none 0 0] from hT3.set_ 0 _)
    have HR4 := Lib.hid (Blk.far hR3 (p := ⟨w1.heap.size, 0, none⟩) (by simp; omega) (.slice A ws.length d))
    have HW4 := Lib.hid (hw3.set_ (b := w1.heap.size) (i := 0) (by omega) (.slice A ws.length d))
    have HB4 := Lib.hid (b3.setCell (p := ⟨w1.heap.size, 0, none⟩) (by simp; omega) (.slice A ws.length d))
    have hs3 : w1.heap.size < w3.heap.size := hT3.lt
    clear hT3 hR3 hw3 b3
    go_wp2
    obtain ⟨W4, hW4⟩ : ∃ W, W = w3.setCell ⟨w1.heap.size, 0, none⟩ (.slice A ws.length d) := ⟨_, rfl⟩
    rw [← hW4] at HT4 HR4 HW4 HB4 ⊢
    clear hW4 z0 f0
    go_loopw [8, 10] (fun a i wr => ∃ j m vs ls v, j ≤ ws.length + 1 ∧ i = .int .i64 (j : Int) ∧ a = .int .i64 ((k0 + m : Nat) : Int) ∧ TeRel body ws k0 w1.heap.size A d w j m vs ls v wr) (fun _ i _ => ws.length + 1 - (intOf i).toNat)
    case atStart => exact ⟨0, 0, [], [], _, by omega, rfl, rfl, rfl, by omega, by rw [preL_nil]; simp, World.ownsRow_nil _ _ _ _, Capped.nil, RowsIn.nil _ _ _, HT4.out, HW4.out, HR4.out, HB4.out⟩
    case round =>
      obtain ⟨j, m, vs, ls, v, hj, rfl, rfl, HT⟩ := hrel
      have HT := Lib.hid HT
      have hle := HT.out.le
      have htl := HT.out.tab.lt
      obtain ⟨a, ha⟩ : ∃ a, a = k0 + m := ⟨_, rfl⟩
      rw [← ha] at hle ⊢
      have Ha := Lib.hid ha
      by_cases hlt : j < ws.length + 1
      · have hx1 := ext_dropP body a
        have hTl : (body.drop a).length ≤ 1000000 := by rw [List.length_drop]; omega
        have hdd : (body.drop k0).drop m = body.drop a := by rw [List.drop_drop, ha]
        have hji : (j : Int) ≤ (ws.length : Int) := by omega
        clear ha
        cases hL : readL (body.drop a) with
        | error e =>
          obtain ⟨rfl, rfl⟩ := HE.out e (bodyT_l HW.out (show lists (ws.length + 1) (body.drop k0) = .error e by
            rw [HT.out.lst, show ws.length + 1 - j = (ws.length + 1 - j - 1) + 1 by omega, preL_err ls m _ (body.drop k0) e (by rw [hdd]; exact hL)]))
          have hc' : (c != 0) = true := by have := readL_code hL; simp; exact this
          have HL := Lib.hid hL
          clear hL hdd
          generalize body.drop a = T at hx1 hTl HL
          go_wp2_with fail
          refine (refreadInts_err T c _ hTl HL.out).mono ?_
          rintro x w5 ⟨rfl, hb5⟩
          have hR9 := stayBl HT.out.res hb5
          have b9 := HT.out.bel.trans (hb5.mono HT.out.bel.size)
          clear hb5 hx1 HE HK
          have hF := hR9
          have z0 := hF.cell 0
          have z1 := hF.cell 1
          have f0 := hF.frozen 0
          have f1 := hF.frozen 1
          have hF2 := (hF.set_ 0 (.slice none 0 0)).set_ 1 (.slice none 0 0)
          have bF := ((b9.setCell (p := ⟨w.heap.size, 0, none⟩) (by simp) (.slice none 0 0)).setCell (p := ⟨w.heap.size, 1, none⟩) (by simp) (.slice none 0 0))
          have D := Lib.hid (And.intro (hF2.cell 0) (hF2.cell 1))
          have BF := Lib.hid bF
          clear bF hF2
          go_wp2
          obtain ⟨d0, d1⟩ := D.out
          have bF := BF.out
          clear D BF z0 z1 f0 f1 hF
          generalize World.setCell (World.setCell _ ⟨w.heap.size, 0, none⟩ (.slice none 0 0)) ⟨w.heap.size, 1, none⟩ (.slice none 0 0) = V at d0 d1 bF ⊢
          exact bodyPost_ret (v := .tuple #[.agg #[.slice none 0 0, .slice none 0 0], .int .i64 c]) (by simp [results, Try.results31, go_sem] at d0 d1 ⊢; simp [d0, d1]) rfl (tpost_none bF)
        | ok r2 =>
          obtain ⟨y, k⟩ := r2
          have hmk : a + k ≤ body.length := readL_le hL hle
          have Hnx := Lib.hid (show lists (ws.length + 1) (body.drop k0) = preL (ls ++ [y]) (m + k) (lists (ws.length + 1 - (j + 1)) ((body.drop k0).drop (m + k))) by
            rw [HT.out.lst, show ws.length + 1 - j = (ws.length + 1 - (j + 1)) + 1 by omega, preL_ok ls m _ (body.drop k0) y k (by rw [hdd]; exact hL)])
          have HL := Lib.hid hL
          clear hL hdd
          generalize body.drop a = T at hx1 hTl HL
          go_wp2_with fail
          refine (refreadInts_ok T y k _ hTl HL.out).mono ?_
          rintro x u ⟨v2, rfl, ho2, hb2⟩
          obtain ⟨A2, c2, rfl, hc2, hr2⟩ := val_of_own ho2
          have Hne := Lib.hid (show ∀ ad, A2 = some ad → 0 < y.length → w1.heap.size + 1 ≤ ad.block ∧ v.ownBlock ≠ some ad.block from fun ad ha h0 => by
            have h1 := own_loc ho2 h0 ad ha
            refine ⟨by omega, fun e => ?_⟩
            have := (HT.out.own.lt _ e).2
            omega)
          have ho3 := own_below HT.out.own hb2
          have hRw := Lib.hid (HT.out.rows.stay hb2)
          have HB2 := Lib.hid hb2
          have hsz2 : w1.heap.size + 1 ≤ u.heap.size := by have := hb2.size; omega
          have y1 := (stayBl HT.out.tab hb2).cell 1
          clear ho2 hb2 hx1
          go_wp2_with (at_builtin; go_must (refine wpList_appRow2 rfl (.tmp 54) (.tmp 56) rfl u v j vs ls rfl ho3 A2 c2 y rfl hRw.out hr2 Hne.out (by omega) hsz2 ?_); intro v5 w5 ho5 hR5 hg5 hv5; obtain ⟨A5, c5, rfl, _, _⟩ := val_of_own ho5; obtain ⟨hnx5, ht5⟩ := te_next HT.out (by omega) HB2.out (by have := Ha.out; omega) Hnx.out hc2 ho5 hR5 hg5 hv5; have z5 := ht5.cell 1; have f5 := ht5.frozen 1; have HN := Lib.hid hnx5; clear hnx5 ho5 hR5 hg5 hv5 ht5)
          clear z5 f5
          go_roundw
          case rel => exact ⟨j + 1, m + k, _, _, _, by omega, by go_num, by have := Ha.out; go_num, HN.out⟩
          case measure => simp [intOf]; omega
      · have hje : j = ws.length + 1 := by omega
        have hls : lists (ws.length + 1) (body.drop k0) = .ok (ls, m) := by rw [HT.out.lst, hje, Nat.sub_self, lists, preL]; simp
        have hji : ¬ (j : Int) ≤ (ws.length : Int) := by omega
        clear hje
        by_cases hend : a < body.length
        · obtain ⟨rfl, rfl⟩ := HE.out 2 (bodyT_end HW.out hls (by omega))
          have hR9 := HT.out.res
          have b9 := HT.out.bel
          clear hls HE HK ha
          have hF := hR9
          have z0 := hF.cell 0
          have z1 := hF.cell 1
          have f0 := hF.frozen 0
          have f1 := hF.frozen 1
          have hF2 := (hF.set_ 0 (.slice none 0 0)).set_ 1 (.slice none 0 0)
          have bF := ((b9.setCell (p := ⟨w.heap.size, 0, none⟩) (by simp) (.slice none 0 0)).setCell (p := ⟨w.heap.size, 1, none⟩) (by simp) (.slice none 0 0))
          have D := Lib.hid (And.intro (hF2.cell 0) (hF2.cell 1))
          have BF := Lib.hid bF
          clear bF hF2
          go_wp2
          obtain ⟨d0, d1⟩ := D.out
          have bF := BF.out
          clear D BF z0 z1 f0 f1 hF
          generalize World.setCell (World.setCell _ ⟨w.heap.size, 0, none⟩ (.slice none 0 0)) ⟨w.heap.size, 1, none⟩ (.slice none 0 0) = V at d0 d1 bF ⊢
          exact bodyPost_ret (v := .tuple #[.agg #[.slice none 0 0, .slice none 0 0], .int .i64 2]) (by simp [results, Try.results31, go_sem] at d0 d1 ⊢; simp [d0, d1]) rfl (tpost_none bF)
        · have hBq : bodyT body = .ok ⟨ws, ls⟩ := bodyT_ok HW.out hls (by omega)
          have Hq := Lib.hid (HK.out _ hBq)
          obtain ⟨hf1, hf2, hf3, hf4⟩ := bodyT_facts hBq
          have Hl1 := Lib.hid HT.out.len
          have Hqs := Lib.hid (show ∀ i, (stg ls i).length ≤ 1000000000 from fun i => stg_mem (p := fun l => l.length ≤ 1000000000) (fun l hl => by have := (hf4 l hl).2; omega) (by simp))
          obtain ⟨A', d', hv', hTb⟩ := tab_of (t := ⟨ws, ls⟩) HT.out.wid hcap HT.out.own Hl1.out.symm HT.out.rows HT.out.cap
          have hTb2 : Tab wr wr.heap.size A ws.length d A' ls.length d' ws ls := hTb
          have hv2 : v = .slice A' ls.length d' := hv'
          subst hv2
          have hT9 := HT.out.tab
          have hR9 := HT.out.res
          have b9 := HT.out.bel
          have o9 := HT.out.own
          have r9 := HT.out.rows
          have s9 := HT.out.wid
          have g9 := HT.out.cap
          have hlsl : ls.length ≤ 1000001 := by have := Hl1.out; omega
          have HBq := Lib.hid hBq
          have HTb := Lib.hid hTb2
          clear hls HE HK ha hf1 hf2 hf3 hf4 hBq hv' hTb hTb2
          have y0 := hT9.cell 0
          have y1 := hT9.cell 1
          have hend' : ¬ (a : Int) < (body.length : Int) := by omega
          clear hend
          go_wp2_with fail
          clear y0 y1
          refine (refvalidT_any A A' ws.length d ls.length d' ws ls wr HTb.out (by omega) (by omega) Hqs.out).mono ?_
          rintro x w6 ⟨⟨r, rfl, hr⟩, bb⟩
          have hR10 := stayBl hR9 bb
          have hP10 := stayBl hT9 bb
          have b10 := b9.trans (bb.mono b9.size)
          rcases Hq.out with ⟨hok, rfl, rfl⟩ | ⟨hno, rfl, rfl⟩
          · have hrt : r = true := hr.2 hok
            clear hr hok Hq
            subst hrt
            have y0 := hP10.cell 0
            have y1 := hP10.cell 1
            have z0 := hR10.cell 0
            have z1 := hR10.cell 1
            have f0 := hR10.frozen 0
            have f1 := hR10.frozen 1
            have hF2 := (hR10.set_ 0 (.slice A ws.length d)).set_ 1 (.slice A' ls.length d')
            have bF := ((b10.setCell (p := ⟨w.heap.size, 0, none⟩) (by simp) (.slice A ws.length d)).setCell (p := ⟨w.heap.size, 1, none⟩) (by simp) (.slice A' ls.length d'))
            have o10 := ownsRow_setCell_below (ownsRow_setCell_below (own_below o9 bb) (a := ⟨w.heap.size, 0, none⟩) (by simp; omega) (.slice A ws.length d)) (a := ⟨w.heap.size, 1, none⟩) (by simp; omega) (.slice A' ls.length d')
            have r10 := ((r9.stay bb).set_ (b := w.heap.size) (i := 0) (by omega) (.slice A ws.length d)).set_ (b := w.heap.size) (i := 1) (by omega) (.slice A' ls.length d')
            have s10 := ((s9.stay bb).set_ (b := w.heap.size) (i := 0) (by omega) (.slice A ws.length d)).set_ (b := w.heap.size) (i := 1) (by omega) (.slice A' ls.length d')
            obtain ⟨A'', d'', e'', hT2⟩ := tab_of (t := ⟨ws, ls⟩) s10 hcap o10 Hl1.out.symm r10 g9
            injection e'' with e1 e2 e3
            subst e1
            subst e3
            have D := Lib.hid (And.intro (hF2.cell 0) (hF2.cell 1))
            have BF := Lib.hid bF
            have TT := Lib.hid hT2
            clear bF hF2 hR10 hP10 b10 hR9 b9 hT2 o9 r9 s9 o10 r10 s10 e2 hT9
            go_wp2
            obtain ⟨d0, d1⟩ := D.out
            have bF := BF.out
            have hT2 := TT.out
            clear D BF TT y0 y1 z0 z1 f0 f1
            generalize World.setCell (World.setCell _ ⟨w.heap.size, 0, none⟩ (.slice A ws.length d)) ⟨w.heap.size, 1, none⟩ (.slice A' ls.length d') = V at d0 d1 bF hT2 ⊢
            exact bodyPost_ret (v := .tuple #[.agg #[.slice A ws.length d, .slice A' ls.length d'], .int .i64 0]) (by simp [results, Try.results31, go_sem] at d0 d1 ⊢; simp [d0, d1]) rfl ⟨A, d, A', d', rfl, hT2, bF⟩
          · have hrf : r = false := by cases r with | true => exact absurd (hr.1 rfl) hno | false => rfl
            clear hr hno Hq
            subst hrf
            clear hP10 hR9 b9 o9 r9 s9 hT9
            have hF := hR10
            have z0 := hF.cell 0
            have z1 := hF.cell 1
            have f0 := hF.frozen 0
            have f1 := hF.frozen 1
            have hF2 := (hF.set_ 0 (.slice none 0 0)).set_ 1 (.slice none 0 0)
            have bF := ((b10.setCell (p := ⟨w.heap.size, 0, none⟩) (by simp) (.slice none 0 0)).setCell (p := ⟨w.heap.size, 1, none⟩) (by simp) (.slice none 0 0))
            have D := Lib.hid (And.intro (hF2.cell 0) (hF2.cell 1))
            have BF := Lib.hid bF
            clear bF hF2
            go_wp2
            obtain ⟨d0, d1⟩ := D.out
            have bF := BF.out
            clear D BF z0 z1 f0 f1 hF
            generalize World.setCell (World.setCell _ ⟨w.heap.size, 0, none⟩ (.slice none 0 0)) ⟨w.heap.size, 1, none⟩ (.slice none 0 0) = V at d0 d1 bF ⊢
            exact bodyPost_ret (v := .tuple #[.agg #[.slice none 0 0, .slice none 0 0], .int .i64 11]) (by simp [results, Try.results31, go_sem] at d0 d1 ⊢; simp [d0, d1]) rfl (tpost_none bF)

theorem refTable_any (s : List UInt8) (t : Tt) (e : Int) (w : World) (hl : s.length ≤ 1000000) (hR : TR s t e) : Calls Try.prog 31 #[.string ⟨s.toArray⟩] w (TPost t e w) := by
  rcases hR with ⟨body, hO, he, rfl⟩ | ⟨body, hO, hB⟩
  · exact refTable_open s body e w hl hO he
  · have hol := openR_len s
    rw [hO] at hol
    exact refTable_body s body t e w hl (by simp at hol; omega) hO hB
end Go.Proofs.Ythpngcfggnhdjaa
