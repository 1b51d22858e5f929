/- SameTables, and the walk of ImageReadTables. -/
import Derived.Test.YthpngcfggnhdjaaTe
namespace Go.Proofs.Ythpngcfggnhdjaa
open Go.RowKit Go.Proofs.Img

theorem Tab.stay {w w' : World} {n c n' c' : Nat} {A A' : Option Addr} {ws : List Int} {ss : List (List Int)} (h : Tab w w.heap.size A n c A' n' c' ws ss) (hb : Below w.heap.size w w') : Tab w' w'.heap.size A n c A' n' c' ws ss := (h.below hb).more hb.size
theorem sameQ (A A' : Option Addr) (n c c' : Nat) (l : List Int) (w : World) (h : Reads w w.heap.size 1 A n (l.map iv)) (h' : Reads w w.heap.size 1 A' n (l.map iv)) (hn : n ≤ 1000000) :
    Calls Try.prog 19 #[.slice A n c, .slice A' n c'] w fun e w' => e = .returned (.bool true) ∧ ∃ q, w' = w.drewN q :=
  (same_any w.heap.size n c n c' A A' l l w h h' hn hn).mono fun e w' ⟨h1, h2⟩ => ⟨by rw [h1, same_self], h2⟩

set_option maxRecDepth 100000 in
set_option maxHeartbeats 4000000 in
theorem sameTables (A A' B B' : Option Addr) (n n' c c' d d' : Nat) (ws : List Int) (ss : List (List Int)) (w : World) (hT : Tab w w.heap.size A n c A' n' c' ws ss) (hU : Tab w w.heap.size B n d B' n' d' ws ss) (hn : n ≤ 1000000) (hn' : n' ≤ 10000000) (hs : ∀ i, (stg ss i).length ≤ 1000000) :
    Calls Try.prog 32 #[.agg #[.slice A n c, .slice A' n' c'], .agg #[.slice B n d, .slice B' n' d']] w fun e w' => e = .returned (.bool true) ∧ Below w.heap.size w w' := by
  have e1 := newBl w (.cells #[.slice A n c, .slice A' n' c'] 51)
  have p1 := Blk.new w 51 #[.slice A n c, .slice A' n' c']
  have e2 := newBl (w.alloc (.cells #[.slice A n c, .slice A' n' c'] 51)) (.cells #[.slice B n d, .slice B' n' d'] 51)
  have q1 := Blk.new (w.alloc (.cells #[.slice A n c, .slice A' n' c'] 51)) 51 #[.slice B n d, .slice B' n' d']
  have p2 := stayBl p1 e2
  have hsz : (w.alloc (.cells #[.slice A n c, .slice A' n' c'] 51)).heap.size = w.heap.size + 1 := by simp
  rw [hsz] at q1
  have b := e1.trans (e2.mono e1.size)
  have T2 := (hT.stay e1).stay e2
  have U2 := (hU.stay e1).stay e2
  have Hs := Lib.hid hs
  clear p1 e1 e2 hsz hT hU hs
  go_enter Try.func32, Try.ntmps32
  go_wp2_with fail
  obtain ⟨W, hW⟩ : ∃ W, W = (w.alloc (.cells #[.slice A n c, .slice A' n' c'] 51)).alloc (.cells #[.slice B n d, .slice B' n' d'] 51) := ⟨_, rfl⟩
  rw [← hW] at q1 p2 b T2 U2 ⊢
  clear hW
  refine (sameQ A B n c d ws W T2.widths U2.widths (by omega)).mono ?_
  rintro e w1 ⟨rfl, q, rfl⟩
  have g1 := p2.cell 1
  have h1 := q1.cell 1
  go_wp2
  clear g1 h1
  go_loopw [5] (fun i wr => ∃ k : Nat, k ≤ n' ∧ i = .int .i64 (k : Int) ∧ Below W.heap.size W wr) (fun i _ => n' - (intOf i).toNat)
  case atStart => exact ⟨0, by omega, rfl, below_drewN (Below.refl _ _) _⟩
  case round =>
    obtain ⟨k, hk, rfl, hb⟩ := hrel
    have g1 := (p2.below hb p2.lt).cell 1
    have h1 := (q1.below hb q1.lt).cell 1
    by_cases hlt : k < n'
    · obtain ⟨ad, A2, c2, rfl, had, hc0, _, hr0⟩ := (T2.below hb).at_ hlt
      obtain ⟨ad', B2, d2, rfl, had', hd0, _, hs0⟩ := (U2.below hb).at_ hlt
      have hl0 := Hs.out k
      have CS := Lib.hid (show ∀ t : Nat, Calls Try.prog 19 #[.slice A2 (stg ss k).length c2, .slice B2 (stg ss k).length d2] (wr.drewN t) fun e w' => e = .returned (.bool true) ∧ ∃ m, w' = (wr.drewN t).drewN m from fun t =>
        sameQ A2 B2 _ c2 d2 (stg ss k) (wr.drewN t) ((hr0.more hb.size).drewN t) ((hs0.more hb.size).drewN t) (by omega))
      generalize (stg ss k).length = L at hc0 hd0 CS hl0
      clear hr0 hs0
      have hk0 : (0 : Int) ≤ (k : Int) := by omega
      have hkn : (k : Int) < (n' : Int) := by omega
      go_wp2_with fail
      go_quiet ((go_at_call 19; exact Calls.quiet_of (CS.out _)))
      go_wp2
      go_roundw
      case rel => exact ⟨k + 1, by omega, by go_num, below_drewN hb _⟩
      case measure => simp [intOf]; omega
    · go_wp2
      go_ret
      exact ⟨rfl, b.trans (hb.mono b.size)⟩

theorem TR_len {s : List UInt8} {t : Tt} {e : Int} (h : TR s t e) : t.ws.length ≤ s.length ∧ t.ss.length ≤ s.length + 1 ∧ ∀ i, (stg t.ss i).length ≤ s.length := by
  have hz : Tt.none.ws.length ≤ s.length ∧ Tt.none.ss.length ≤ s.length + 1 ∧ ∀ i, (stg Tt.none.ss i).length ≤ s.length := ⟨by simp [Tt.none], by simp [Tt.none], fun i => by simp [Tt.none, stg]⟩
  rcases h with ⟨body, hO, he, rfl⟩ | ⟨body, hO, hB⟩
  · exact hz
  · have hol := openR_len s
    rw [hO] at hol
    simp at hol
    rcases hB with ⟨_, rfl⟩ | ⟨q, hq, hB⟩
    · exact hz
    · rcases hB with ⟨_, rfl, _⟩ | ⟨_, rfl, _⟩
      · obtain ⟨h1, h2, h3, h4⟩ := bodyT_facts hq
        exact ⟨by omega, by omega, fun i => stg_mem (p := fun l => l.length ≤ s.length) (fun l hl => by have := (h4 l hl).2; omega) (by simp)⟩
      · exact hz

set_option maxRecDepth 100000 in
set_option maxHeartbeats 4000000 in
theorem wk_readTables (a0 : ByteArray) (a1 : Bool) (w : World) :
    Calls Try.prog 11 #[.string a0, .bool a1] w fun e w' => e = .returned (.bool true) ∧ Below w.heap.size w w' := by
  obtain ⟨l, rfl⟩ : ∃ l : List UInt8, a0 = ⟨l.toArray⟩ := ⟨a0.data.toList, by simp⟩
  by_cases hbig : 3000 < l.length
  · have hbig' : (3000 : Int) < (l.length : Int) := by omega
    go_enter Try.func11, Try.ntmps11
    go_wp2_with fail
    refine (alive_any _).mono ?_
    rintro e wz ⟨rfl, bz⟩
    go_wp2
    go_ret
    exact ⟨rfl, bz⟩
  · have hbig' : ¬ (3000 : Int) < (l.length : Int) := by omega
    cases a1 with
    | false =>
      obtain ⟨t, e, hR⟩ := TR_some l
      obtain ⟨m0, m1, m2⟩ := TR_len hR
      have HM := Lib.hid (show ∀ i, (stg t.ss i).length ≤ 1000000 from fun i => by have := m2 i; omega)
      have HR := Lib.hid hR
      clear hR m2
      go_enter Try.func11, Try.ntmps11
      go_wp2_with fail
      have b := Below.refl w.heap.size w
      refine (readTable_any l t e _ (by omega) HR.out).mono ?_
      rintro x w1 ⟨A, c, A', c', rfl, T1, hb1⟩
      have b1 := b.trans (hb1.mono b.size)
      have bn := newBl w1 (.cells #[.slice A t.ws.length c, .slice A' t.ss.length c'] 51)
      have p1 := Blk.new w1 51 #[.slice A t.ws.length c, .slice A' t.ss.length c']
      go_wp2_with fail
      obtain ⟨W1, hW⟩ : ∃ W, W = w1.alloc (.cells #[.slice A t.ws.length c, .slice A' t.ss.length c'] 51) := ⟨_, rfl⟩
      rw [← hW] at bn p1 ⊢
      clear hW
      have T2 := T1.stay bn
      have b2 := b1.trans (bn.mono b1.size)
      clear T1 bn b1
      refine (refTable_any l t e _ (by omega) HR.out).mono ?_
      rintro x w2 ⟨B, d, B', d', rfl, U1, hb2⟩
      have bm := newBl w2 (.cells #[.slice B t.ws.length d, .slice B' t.ss.length d'] 51)
      have q2 := Blk.new w2 51 #[.slice B t.ws.length d, .slice B' t.ss.length d']
      have p3 := stayBl (stayBl p1 hb2) bm
      have b3 := (b2.trans (hb2.mono b2.size)).trans (bm.mono (by have := b2.size; have := hb2.size; omega))
      have T3 := (T2.stay hb2).stay bm
      have U3 := U1.stay bm
      have k0 := p3.cell 0
      have k1 := p3.cell 1
      have j0 := q2.cell 0
      have j1 := q2.cell 1
      clear T2 U1 hb2 bm b2 p1
      go_wp2_with fail
      clear k0 k1 j0 j1
      obtain ⟨W2, hW⟩ : ∃ W, W = w2.alloc (.cells #[.slice B t.ws.length d, .slice B' t.ss.length d'] 51) := ⟨_, rfl⟩
      rw [← hW] at q2 p3 b3 T3 U3 ⊢
      clear hW
      refine (sameTables A A' B B' _ _ c c' d d' t.ws t.ss W2 T3 U3 (by omega) (by omega) HM.out).mono ?_
      rintro x w3 ⟨rfl, hb3⟩
      have b4 := b3.trans (hb3.mono b3.size)
      go_wp2_with fail
      refine (alive_any _).mono ?_
      rintro x wz ⟨rfl, bz⟩
      go_wp2
      go_ret
      exact ⟨rfl, b4.trans (bz.mono b4.size)⟩
    | true =>
      have hsl := fnv_bnd l
      generalize hS : shutB l = S at hsl
      have HS := Lib.hid hS
      have hS2 : S.length ≤ 3004 := by omega
      clear hS hsl
      obtain ⟨t, e, hR⟩ := TR_some S
      obtain ⟨m0, m1, m2⟩ := TR_len hR
      have HM := Lib.hid (show ∀ i, (stg t.ss i).length ≤ 1000000 from fun i => by have := m2 i; omega)
      have HR := Lib.hid hR
      clear hR m2
      go_enter Try.func11, Try.ntmps11
      go_wp2_with fail
      refine (refshut_any l w (by omega)).mono ?_
      rintro x w0 ⟨rfl, b⟩
      rw [HS.out]
      go_wp2_with fail
      refine (readTable_any S t e _ (by omega) HR.out).mono ?_
      rintro x w1 ⟨A, c, A', c', rfl, T1, hb1⟩
      have b1 := b.trans (hb1.mono b.size)
      have bn := newBl w1 (.cells #[.slice A t.ws.length c, .slice A' t.ss.length c'] 51)
      have p1 := Blk.new w1 51 #[.slice A t.ws.length c, .slice A' t.ss.length c']
      go_wp2_with fail
      obtain ⟨W1, hW⟩ : ∃ W, W = w1.alloc (.cells #[.slice A t.ws.length c, .slice A' t.ss.length c'] 51) := ⟨_, rfl⟩
      rw [← hW] at bn p1 ⊢
      clear hW
      have T2 := T1.stay bn
      have b2 := b1.trans (bn.mono b1.size)
      clear T1 bn b1
      refine (refTable_any S t e _ (by omega) HR.out).mono ?_
      rintro x w2 ⟨B, d, B', d', rfl, U1, hb2⟩
      have bm := newBl w2 (.cells #[.slice B t.ws.length d, .slice B' t.ss.length d'] 51)
      have q2 := Blk.new w2 51 #[.slice B t.ws.length d, .slice B' t.ss.length d']
      have p3 := stayBl (stayBl p1 hb2) bm
      have b3 := (b2.trans (hb2.mono b2.size)).trans (bm.mono (by have := b2.size; have := hb2.size; omega))
      have T3 := (T2.stay hb2).stay bm
      have U3 := U1.stay bm
      have k0 := p3.cell 0
      have k1 := p3.cell 1
      have j0 := q2.cell 0
      have j1 := q2.cell 1
      clear T2 U1 hb2 bm b2 p1
      go_wp2_with fail
      clear k0 k1 j0 j1
      obtain ⟨W2, hW⟩ : ∃ W, W = w2.alloc (.cells #[.slice B t.ws.length d, .slice B' t.ss.length d'] 51) := ⟨_, rfl⟩
      rw [← hW] at q2 p3 b3 T3 U3 ⊢
      clear hW
      refine (sameTables A A' B B' _ _ c c' d d' t.ws t.ss W2 T3 U3 (by omega) (by omega) HM.out).mono ?_
      rintro x w3 ⟨rfl, hb3⟩
      have b4 := b3.trans (hb3.mono b3.size)
      go_wp2_with fail
      refine (alive_any _).mono ?_
      rintro x wz ⟨rfl, bz⟩
      go_wp2
      go_ret
      exact ⟨rfl, b4.trans (bz.mono b4.size)⟩
end Go.Proofs.Ythpngcfggnhdjaa
