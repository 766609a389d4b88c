/- For all rooms, volumes and lists of changes the law 'LogBack' returns true. No condition. -/
import Derived.Test.YtngdlgmehefocaaLogN
import Derived.Test.YtngdlgmehefocaaLogM
import Derived.Test.YtngdlgmehefocaaKeep
import Derived.Test.YtngdlgmehefocaaAppI
import Derived.Test.YtngdlgmehefocaaArgs
import Derived.Test.YtngdlgmehefocaaBox3
import Derived.Deep.RegionWith
import Derived.Deep.DeepCutAuto
namespace Go.Proofs.Ytngdlgmehefocaa.LogBack
open Go.ChangeShapes Go.WideShapes Go.ChangeAt Go.RowKit Go.Proofs.Ytngdlgmehefocaa.Kit Go.Proofs.Ytngdlgmehefocaa.Mem Go.Proofs.Ytngdlgmehefocaa.Mix Go.Proofs.Ytngdlgmehefocaa.Log Go.Joins
set_option linter.unusedVariables false
set_option linter.unusedSimpArgs false
/-- What stands behind the call of Note and the store of what it gave. -/
def Next (B : Nat) (wr : World) (r1 r2 : Int) (rl : List Chg) (z : Int) (t11 t12 : Value) (wx : World) : Prop :=
  ∃ g A c, t11 = .pointer (some ⟨g, 0, none⟩) ∧ t12 = .int .i64 z ∧ wx.heap[g]? = some (.cells #[.int .i64 r1, .int .i64 r2, .slice A rl.length c] 24 (0, 0)) ∧ rl.length ≤ c ∧ c ≤ maxLen ∧ wx.ownsRow B 32 3 (.slice A rl.length c) rl.length (SV encC rl) ∧ Below wr.heap.size wr wx
theorem next_a {B : Nat} {wr w6 : World} {r1 r2 z : Int} {rl : List Chg} {A : Option Addr} {c : Nat} (hB : B ≤ wr.heap.size) (h1 : rl.length ≤ c) (h2 : c ≤ maxLen) (ho : w6.ownsRow wr.drew.heap.size 32 3 (.slice A rl.length c) rl.length (SV encC rl)) (hb : Below wr.drew.heap.size wr.drew w6) :
    Next B wr r1 r2 rl z (.pointer (some ⟨w6.heap.size, 0, none⟩)) (.int .i64 z) (w6.alloc (.cells #[.int .i64 r1, .int .i64 r2, .slice A rl.length c] 24)) :=
  ⟨_, A, c, rfl, rfl, heap_alloc_new _ _, h1, h2, own_down (own_under ho ((Below.refl _ _).alloc (Nat.le_refl _) _) (Nat.le_refl _)) hB, (((Below.refl _ _).drew).trans hb).alloc hb.size _⟩
theorem next_b {B : Nat} {wr w6 : World} {r1 r2 z : Int} {rl : List Chg} {A : Option Addr} {c : Nat} (hB : B ≤ wr.heap.size) (h1 : rl.length ≤ c) (h2 : c ≤ maxLen) (ho : w6.ownsRow (wr.alloc (.cells #[.int .i64 0, .int .i64 0, .slice none 0 0] 24)).drew.heap.size 32 3 (.slice A rl.length c) rl.length (SV encC rl)) (hb : Below (wr.alloc (.cells #[.int .i64 0, .int .i64 0, .slice none 0 0] 24)).drew.heap.size (wr.alloc (.cells #[.int .i64 0, .int .i64 0, .slice none 0 0] 24)).drew w6) :
    Next B wr r1 r2 rl z (.pointer (some ⟨wr.heap.size, 0, none⟩)) (.int .i64 z) (((w6.setCell ⟨wr.heap.size, 0, none⟩ (.int .i64 r1)).setCell ⟨wr.heap.size, 1, none⟩ (.int .i64 r2)).setCell ⟨wr.heap.size, 2, none⟩ (.slice A rl.length c)) := by
  have hs : (wr.alloc (.cells #[.int .i64 0, .int .i64 0, .slice none 0 0] 24)).drew.heap.size = wr.heap.size + 1 := by simp [World.drew]
  have hbk : w6.heap[wr.heap.size]? = some (.cells #[.int .i64 0, .int .i64 0, .slice none 0 0] 24 (0, 0)) := (hb.block wr.heap.size (by omega)).trans (heap_alloc_new wr _)
  rw [hs] at ho hb
  have BB : Below wr.heap.size wr w6 := (((Below.refl _ _).alloc (Nat.le_refl _) _).drew).trans (hb.mono (by omega))
  exact ⟨_, A, c, rfl, rfl, box3_set hbk _ _ _, h1, h2, own_down (own_set3T ho hbk (by decide) _ _ _) (by omega), ((BB.setCell (p := ⟨wr.heap.size, 0, none⟩) (Nat.le_refl _) _).setCell (p := ⟨wr.heap.size, 1, none⟩) (Nat.le_refl _) _).setCell (p := ⟨wr.heap.size, 2, none⟩) (Nat.le_refl _) _⟩
/-- What stands behind the store of the next log. -/
def Next2 (B : Nat) (w wc : World) (gL : Nat) (room last : Int) (A : Option Addr) (c : Nat) (cs : List Chg) (A2 : Option Addr) (n2 c2 : Nat) (had : List Int) (wx : World) : Prop :=
  wx.heap[gL]? = some (.cells #[.int .i64 room, .int .i64 last, .slice A cs.length c] 24 (0, 0)) ∧ wx.ownsRow B 32 3 (.slice A cs.length c) cs.length (SV encC cs) ∧ wx.ownsRow B 3 1 (.slice A2 n2 c2) n2 (IV had) ∧ Below B w wx
theorem next2_of {B gL n : Nat} {w wc : World} {room last : Int} {A : Option Addr} {c : Nat} {cs : List Chg} {A2 : Option Addr} {n2 c2 : Nat} {had : List Int} {x y z : Value} (hn : n = cs.length) (hbk : wc.heap[gL]? = some (.cells #[x, y, z] 24 (0, 0))) (hB : B ≤ gL)
    (oL : wc.ownsRow B 32 3 (.slice A cs.length c) cs.length (SV encC cs)) (oH : wc.ownsRow B 3 1 (.slice A2 n2 c2) n2 (IV had)) (bw : Below B w wc) :
    Next2 B w wc gL room last A c cs A2 n2 c2 had (((wc.setCell ⟨gL, 0, none⟩ (.int .i64 room)).setCell ⟨gL, 1, none⟩ (.int .i64 last)).setCell ⟨gL, 2, none⟩ (.slice A n c)).drew := by
  subst hn
  exact ⟨box3_set hbk _ _ _, own_set3T oL hbk (by decide) _ _ _, own_set3T oH hbk (by decide) _ _ _, (((bw.setCell (p := ⟨gL, 0, none⟩) hB _).setCell (p := ⟨gL, 1, none⟩) hB _).setCell (p := ⟨gL, 2, none⟩) hB _).drew⟩
theorem note_cases {room last b n : Int} {cs : List Chg} (hr : rightL room last cs = true) (hl : last ≠ 2147483647) :
    (mayB b n = true ∧ noteL room last cs b n = (room, last + 1, cutL room cs ++ [(last + 1, b, n)], 0)) ∨ (mayB b n = false ∧ noteL room last cs b n = (0, 0, [], 1)) := by
  unfold noteL
  rw [if_neg (by simp [hr])]
  rcases hm : mayB b n with _ | _
  · exact .inr ⟨rfl, if_pos rfl⟩
  · refine .inl ⟨rfl, ?_⟩
    rw [if_neg (by simp), if_neg hl]
set_option maxRecDepth 100000 in
set_option maxHeartbeats 8000000 in
theorem walk {w : World} {A : Option Addr} {n c : Nat} {room vol : Int} {l : List Int} (h : Ints w w.heap.size A n l) (h47 : n ≤ 140737488351232) (v1 : -9223372036854775808 ≤ vol) (v2 : vol ≤ 9223372036854775807) :
    Calls Try.prog 5 #[.int .i64 room, .int .i64 vol, .slice A n c] w fun e w' => e = .returned (.bool true) ∧ Below w.heap.size w w' := by
  have e1 := h.1
  subst e1
  have HI := hide h
  clear h
  by_cases hr : 1 ≤ room ∧ room ≤ 64
  · obtain ⟨r1, r2⟩ := hr
    have NW := new_yes room w r1 r2
    by_cases hv1 : vol < 0
    · go_enter Try.func5, Try.ntmps5
      go_wp2_with (first | (go_at_call 12; (with_reducible refine NW.mono ?_); rintro e w1 ⟨rfl, hb⟩; obtain ⟨hS, hE, hz, hc, hf⟩ := bcell hb; (try simp only [go_sem] at hE); subst hE) | (go_at_call 6; refine (lives_any _).mono ?_; rintro e w1 ⟨rfl, hb⟩; obtain ⟨hS, hE, hz, hc, hf⟩ := bcell hb; (try simp only [go_sem] at hE); subst hE))
      go_ret
      exact ⟨rfl, (by repeat' (first | (with_reducible exact Below.refl _ _) | (with_reducible refine below_drewN ?_ _) | (with_reducible refine Below.drew ?_) | (with_reducible refine Below.alloc ?_ ?_ _) | (with_reducible refine Below.setCell ?_ ?_ _) | (with_reducible refine below_step ?_ (by assumption) ?_) | go_size))⟩
    · by_cases hv2 : 1099511627776 < vol
      · go_enter Try.func5, Try.ntmps5
        go_wp2_with (first | (go_at_call 12; (with_reducible refine NW.mono ?_); rintro e w1 ⟨rfl, hb⟩; obtain ⟨hS, hE, hz, hc, hf⟩ := bcell hb; (try simp only [go_sem] at hE); subst hE) | (go_at_call 6; refine (lives_any _).mono ?_; rintro e w1 ⟨rfl, hb⟩; obtain ⟨hS, hE, hz, hc, hf⟩ := bcell hb; (try simp only [go_sem] at hE); subst hE))
        go_ret
        exact ⟨rfl, (by repeat' (first | (with_reducible exact Below.refl _ _) | (with_reducible refine below_drewN ?_ _) | (with_reducible refine Below.drew ?_) | (with_reducible refine Below.alloc ?_ ?_ _) | (with_reducible refine Below.setCell ?_ ?_ _) | (with_reducible refine below_step ?_ (by assumption) ?_) | go_size))⟩
      · by_cases h300 : (300 : Int) < l.length
        · go_enter Try.func5, Try.ntmps5
          go_wp2_with (first | (go_at_call 12; (with_reducible refine NW.mono ?_); rintro e w1 ⟨rfl, hb⟩; obtain ⟨hS, hE, hz, hc, hf⟩ := bcell hb; (try simp only [go_sem] at hE); subst hE) | (go_at_call 6; refine (lives_any _).mono ?_; rintro e w1 ⟨rfl, hb⟩; obtain ⟨hS, hE, hz, hc, hf⟩ := bcell hb; (try simp only [go_sem] at hE); subst hE))
          go_ret
          exact ⟨rfl, (by repeat' (first | (with_reducible exact Below.refl _ _) | (with_reducible refine below_drewN ?_ _) | (with_reducible refine Below.drew ?_) | (with_reducible refine Below.alloc ?_ ?_ _) | (with_reducible refine Below.setCell ?_ ?_ _) | (with_reducible refine below_step ?_ (by assumption) ?_) | go_size))⟩
        · have hl300 : l.length ≤ 300 := by omega
          have HS0 := hide (back_start r1 r2 (show 0 ≤ vol by omega) (show vol ≤ 1099511627776 by omega))
          go_enter Try.func5, Try.ntmps5
          go_wp2_with (first | (go_at_call 12; (with_reducible refine NW.mono ?_); rintro e w1 ⟨rfl, hb1⟩; obtain ⟨hS, hE, hz1, hc1, hf1⟩ := bcell hb1; (try simp only [go_sem] at hE); subst hE; have L1 := lives_any (w1.alloc (.cells #[.int .i64 room, .int .i64 0, .slice none 0 0] 24))) | (go_at_call 6; (with_reducible refine L1.mono ?_); rintro e w2 ⟨rfl, hb2⟩; obtain ⟨hS2, hE2, hz2, hc2, hf2⟩ := bcell hb2; (try simp only [go_sem] at hE2); subst hE2))
          have z1 := hb1.size
          have z2 := hb2.size
          simp only [World.size_alloc] at z2
          have BK : (w2.alloc (.cells #[.int .i64 vol] 3)).heap[w1.heap.size]? = some (.cells #[.int .i64 room, .int .i64 0, .slice none 0 0] 24 (0, 0)) := (Below.heap_alloc w2 _ _ (by omega)).trans ((hb2.block w1.heap.size (by simp)).trans (heap_alloc_new w1 _))
          have OH : (w2.alloc (.cells #[.int .i64 vol] 3)).ownsRow w.heap.size 3 1 (.slice (some ⟨w2.heap.size, 0, none⟩) 1 1) 1 (IV [vol]) := World.ownsRow_lit w2 #[.int .i64 vol] 1 (by omega) (by unfold maxLen; omega) rfl
          have OL : (w2.alloc (.cells #[.int .i64 vol] 3)).ownsRow w.heap.size 32 3 (.slice none 0 0) 0 (SV encC []) := World.ownsRow_nil _ _ _ _
          have BW : Below w.heap.size w (w2.alloc (.cells #[.int .i64 vol] 3)) := ((hb1.alloc (by omega) _).trans (hb2.mono (by simp; omega))).alloc (by omega) _
          generalize hG : w1.heap.size = gL at *
          clear hG hc1 hf1 hc2 hf2 hb1 hb2 NW L1
          go_loopw [1, 9, 10] (fun t1 t9 i wr => ∃ (k : Nat) (last vol' : Int) (cs : List Chg) (had : List Int) (A2 : Option Addr) (c2 : Nat) (A3 : Option Addr) (c3 : Nat), k ≤ l.length ∧ i = .int .i64 k ∧ t1 = .int .i64 vol' ∧ t9 = .slice A2 had.length c2 ∧ had.length ≤ k + 1 ∧ had.length ≤ c2 ∧ c2 ≤ maxLen ∧ wr.ownsRow w.heap.size 3 1 (.slice A2 had.length c2) had.length (IV had) ∧ BackI room last vol' cs had ∧
            wr.heap[gL]? = some (.cells #[.int .i64 room, .int .i64 last, .slice A3 cs.length c3] 24 (0, 0)) ∧ cs.length ≤ c3 ∧ c3 ≤ maxLen ∧ wr.ownsRow w.heap.size 32 3 (.slice A3 cs.length c3) cs.length (SV encC cs) ∧ Below w.heap.size w wr) (fun _ _ i _ => l.length - (intOf i).toNat)
          case atStart => exact ⟨0, 0, vol, [], [vol], _, _, none, 0, Nat.zero_le _, rfl, rfl, rfl, Nat.le_refl _, Nat.le_refl _, by unfold maxLen; simp, OH, HS0.out, BK, Nat.le_refl _, Nat.zero_le _, OL, BW⟩
          case round =>
            clear BK OH OL BW HS0
            obtain ⟨k, last, vol', cs, had, A2, c2, A3, c3, hk, rfl, rfl, rfl, hhk, hcap2, hcm2, hown2, hback, hbk, hcap3, hcm3, hown3, hbw⟩ := hrel
            obtain ⟨hv0, hvol⟩ := back_vol hback
            have hright := right_pre hback.1
            obtain ⟨p1, p2, p3, p4, p5, p6⟩ := hright
            have hlast : last = (had.length : Int) - 1 := hback.2.1
            have hbd := hback.2.2.2.2 (had.length - 1) (by omega)
            rw [← hvol] at hbd
            obtain ⟨bd1, bd2⟩ := hbd
            have hzw := hbw.size
            obtain ⟨x0, x1, x2, y0, y1, y2⟩ := box3_cells hbk
            have hgl := lt_of_blk hbk
            have HO2 := hide hown2
            have HO3 := hide hown3
            have HBA := hide hback
            have HBK := hide hbk
            have HVOL := hide hvol
            have HLAST := hide hlast
            have l1 : last ≤ 300 := by omega
            clear hown2 hown3 hback hbk hvol
            by_cases hlt : k < l.length
            · clear hlast
              obtain ⟨ab, off, rfl, hab, hcell⟩ := HI.out.2 (by omega)
              have cx : wr.cell? ⟨ab, off + k, none⟩ = some (.int .i64 (l.getD k 0)) := (hbw.cell (p := ⟨ab, off + k, none⟩) hab).trans (hcell k hlt)
              clear hcell
              generalize l.getD k 0 = x at *
              have e8 : (k : Int).tmod 8 = (k : Int) % 8 := Int.tmod_eq_emod_of_nonneg (by omega)
              have ew : IntKind.i64.wrap (1 + (k : Int) % 8) = 1 + (k : Int) % 8 := IntWalk.i64_in _ (by omega)
              have b81 : 1 ≤ 1 + (k : Int) % 8 := by omega
              have b82 : 1 + (k : Int) % 8 ≤ 8 := by omega
              have HNC := hide (note_cases (b := 1 + (k : Int) % 8) (n := x) HBA.out.1 (show last ≠ 2147483647 by omega))
              have hbl : ab < wr.heap.size := block_lt_of_cell cx
              have hcs : cs.length ≤ 64 := by omega
              have HNT := hide (fun (w' : World) (hb : Below wr.heap.size wr w') => note_any (room := room) (last := last) (b := 1 + (k : Int) % 8) (m := x) (srow_of_own encC_len (by decide) (own_under HO3.out hb (Nat.le_refl _))) (Nat.le_refl _) hcap3 hcm3 (by omega))
              unfold NotePost at HNT
              generalize noteL room last cs (1 + (k : Int) % 8) x = r at *
              obtain ⟨r1, r2, rl, z⟩ := r
              dsimp only at HNT
              go_wp2
              have HCX := hide cx
              have T1 := HNT.out wr.drew (by repeat' (first | (with_reducible exact Below.refl _ _) | (with_reducible refine below_drewN ?_ _) | (with_reducible refine Below.drew ?_) | (with_reducible refine Below.alloc ?_ ?_ _) | (with_reducible refine Below.setCell ?_ ?_ _) | (with_reducible refine below_step ?_ (by assumption) ?_) | go_size))
              have T2 := HNT.out (wr.alloc (.cells #[.int .i64 0, .int .i64 0, .slice none 0 0] 24)).drew (by repeat' (first | (with_reducible exact Below.refl _ _) | (with_reducible refine below_drewN ?_ _) | (with_reducible refine Below.drew ?_) | (with_reducible refine Below.alloc ?_ ?_ _) | (with_reducible refine Below.setCell ?_ ?_ _) | (with_reducible refine below_step ?_ (by assumption) ?_) | go_size))
              have hBw : w.heap.size ≤ wr.heap.size := by omega
              go_cut [11, 12] (fun t11 t12 wx => Next w.heap.size wr r1 r2 rl z t11 t12 wx)
              case first =>
                go_region_with (go_at_call 7; (first | with_reducible refine T1.mono ?_ | with_reducible refine T2.mono ?_); rintro e w6 ⟨A6, c6, rfl, k1, k2, k3, hb6⟩; obtain ⟨hS6, hE6, hz6, hc6, hf6⟩ := bcell hb6; (try simp only [go_sem] at hE6); subst hE6)
                all_goals
                  go_wp2_with fail
                  go_meet
                  first
                    | exact next_a hBw k1 k2 k3 hb6
                    | exact next_b hBw k1 k2 k3 hb6
              case rest =>
                obtain ⟨g, A4, c4, rfl, rfl, hbg, k1, k2, k3, bw⟩ := hcut
                clear T1 T2 HNT e8 ew cx x0 x1 x2 y0 y1 y2
                have hbkc := (bw.block gL hgl).trans HBK.out
                obtain ⟨g0, g1, g2, _, _, _⟩ := box3_cells hbg
                obtain ⟨x0, x1, x2, y0, y1, y2⟩ := box3_cells hbkc
                have HO2c := hide (own_under HO2.out bw (Nat.le_refl _))
                have HO3c := hide (own_under HO3.out bw (Nat.le_refl _))
                have HK3 := hide k3
                have HBWc := hide (hbw.trans (bw.mono (by omega)))
                have HBKc := hide hbkc
                have cx : wc.cell? ⟨ab, off + k, none⟩ = some (.int .i64 x) := (bw.cell (p := ⟨ab, off + k, none⟩) hbl).trans HCX.out
                have hblc : ab < wc.heap.size := block_lt_of_cell cx
                clear hbg hbkc k3 bw HO2 HO3 HBK
                rcases HNC.out with ⟨hmay, hnl⟩ | ⟨hmay, hnl⟩
                · simp only [Prod.mk.injEq] at hnl
                  obtain ⟨q1, rfl, rfl, rfl⟩ := hnl
                  have q1 := q1.symm
                  subst q1
                  have HST := hide (back_step HBA.out hmay (show last ≠ 2147483647 by omega))
                  obtain ⟨_, _, _, m4, m5⟩ := may_bd hmay
                  clear HNC hmay
                  have wv : IntKind.i64.wrap (vol' + x) = vol' + x := IntWalk.i64_in _ (by omega)
                  have hBc : w.heap.size ≤ wc.heap.size := by have := HBWc.out.size; omega
                  have hBg : w.heap.size ≤ gL := by omega
                  go_wp2
                  go_cut [1] (fun t1 wx => t1 = .int .i64 (vol' + x) ∧ Next2 w.heap.size w wc gL room (last + 1) A4 c4 (cutL room cs ++ [(last + 1, 1 + (k : Int) % 8, x)]) A2 had.length c2 had wx)
                  case first =>
                    go_region
                    all_goals
                      go_wp2_with fail
                      go_meet
                      exact ⟨rfl, next2_of (by simp) HBKc.out hBg HK3.out HO2c.out HBWc.out⟩
                  case rest =>
                    obtain ⟨rfl, n1, n2, n3, n4⟩ := hcut
                    obtain ⟨wd, rfl⟩ : ∃ wd : World, wd = wc := ⟨_, rfl⟩
                    have hzd := n4.size
                    have N3 := hide n3
                    have N2 := hide n2
                    have N1 := hide n1
                    clear n1 n2 n3 g0 g1 g2 x0 x1 x2 y0 y1 y2 cx hblc HO2c HO3c HK3 HBKc HBWc HCX HBA
                    go_wp2_with (at_builtin; go_loud (refine app_i64 rfl (.tmp 89) (.tmp 91) rfl w.heap.size A2 had.length c2 had rfl (N3.out.alloc _) _ _ 1 1 [vol' + x] rfl (ints_one wd (vol' + x) 3) (by omega) (by simp; omega) ?_); intro A5 c5 w5 hown5 hgrow5 hbel5 hcap5 hcm5)
                    have kk : ∀ t, t ≠ 3 → KeepT wd w5 t := fun t ht => (keepT_alloc wd _ t).trans (keepT_own (N3.out.alloc _) hgrow5 ht.symm)
                    have r1' := kk 24 (by decide) _ _ _ N1.out
                    have r2' := own_keepT N2.out (kk 32 (by decide))
                    have r3' : Below w.heap.size w w5 := (n4.alloc (by omega) _).trans hbel5
                    refine ⟨⟨k + 1, last + 1, vol' + x, _, had ++ [vol' + x], A5, c5, A4, c4, by omega, by go_num, rfl, by simp, by simp; omega, by simp; omega, hcm5, by simpa using hown5, HST.out, r1', k1, k2, r2', r3'⟩, by simp [intOf]; omega⟩
                · simp only [Prod.mk.injEq] at hnl
                  obtain ⟨rfl, rfl, rfl, rfl⟩ := hnl
                  have hx : x = 0 ∨ (x ≠ 0 ∧ x < -1099511627776) ∨ (x ≠ 0 ∧ -1099511627776 ≤ x ∧ 1099511627776 < x) := by
                    have := of_decide_eq_false hmay
                    omega
                  clear HNC hmay
                  rcases hx with rfl | ⟨hx0, hx1⟩ | ⟨hx0, hx1, hx2⟩
                  · go_wp2
                    refine ⟨⟨k + 1, last, vol', cs, had, A2, c2, A3, c3, by omega, by go_num, rfl, rfl, by omega, hcap2, hcm2, HO2c.out, HBA.out, HBKc.out, hcap3, hcm3, HO3c.out, HBWc.out⟩, by simp [intOf]; omega⟩
                  · have gx : (x != 0) = true := by simpa using hx0
                    go_wp2
                    refine ⟨⟨k + 1, last, vol', cs, had, A2, c2, A3, c3, by omega, by go_num, rfl, rfl, by omega, hcap2, hcm2, HO2c.out, HBA.out, HBKc.out, hcap3, hcm3, HO3c.out, HBWc.out⟩, by simp [intOf]; omega⟩
                  · have gx : (x != 0) = true := by simpa using hx0
                    go_wp2
                    refine ⟨⟨k + 1, last, vol', cs, had, A2, c2, A3, c3, by omega, by go_num, rfl, rfl, by omega, hcap2, hcm2, HO2c.out, HBA.out, HBKc.out, hcap3, hcm3, HO3c.out, HBWc.out⟩, by simp [intOf]; omega⟩
            · obtain rfl : k = l.length := by omega
              subst hlast
              have HBW2 := hide hbw
              have HLR := hide (srow_of_own encC_len (by decide) HO3.out)
              have HIR := hide (ints_of_own HO2.out)
              have HBA2 := hide HBA.out
              have hcs : cs.length ≤ 64 := by omega
              clear HO2 HO3 HBK hbw HVOL
              obtain ⟨wo, rfl⟩ : ∃ wo : World, wo = wr := ⟨_, rfl⟩
              go_wp2
              go_loopw [13] (fun i wr => ∃ k : Nat, k ≤ had.length ∧ i = .int .i64 k ∧ Below wo.heap.size wo wr) (fun i _ => had.length - (intOf i).toNat)
              case atStart => exact ⟨0, Nat.zero_le _, rfl, Below.refl _ _⟩
              case round =>
                obtain ⟨j, hj, rfl, hbj⟩ := hrel
                have hzj := hbj.size
                have x0' := (hbj.cell (p := ⟨gL, 0, none⟩) hgl).trans x0
                have x1' := (hbj.cell (p := ⟨gL, 1, none⟩) hgl).trans x1
                have x2' := (hbj.cell (p := ⟨gL, 2, none⟩) hgl).trans x2
                have hvb1 : -9223372036854775808 ≤ vol' := by omega
                have hvb2 : vol' ≤ 9223372036854775807 := by omega
                have AT := at_any (room := room) (last := (had.length : Int) - 1) (vol := vol') (ver := (j : Int)) (c := c3) (srow_below HLR.out hbj (Nat.le_refl _)) hzj hcap3 hcm3 (by omega) hvb1 hvb2
                by_cases hlt2 : j < had.length
                · obtain ⟨hb2, hoff2, rfl, hbh, hcellh⟩ := HIR.out.2 (by omega)
                  have cy : wr.cell? ⟨hb2, hoff2 + j, none⟩ = some (.int .i64 (had.getD j 0)) := (hbj.cell (p := ⟨hb2, hoff2 + j, none⟩) hbh).trans (hcellh j hlt2)
                  clear hcellh
                  have HGO := hide (back_gone HBA2.out (ver := j) hlt2)
                  have HKE := hide (fun h => back_kept HBA2.out (ver := j) hlt2 h (by omega))
                  generalize had.getD j 0 = y at *
                  by_cases hgo : room < (had.length : Int) - 1 - j
                  · rw [HGO.out hgo] at AT
                    have hgo2 : room < (had.length : Int) - 1 - j := by omega
                    clear HGO HKE
                    go_wp2_with (go_at_call 15; (with_reducible refine AT.mono ?_); rintro e w1 ⟨rfl, hb⟩; obtain ⟨hS, hE, hz, hc, hf⟩ := bcell hb; (try simp only [go_sem] at hE); subst hE)
                    refine ⟨⟨j + 1, by omega, by go_num, hbj.trans (hb.mono hzj)⟩, by simp [intOf]; omega⟩
                  · rw [HKE.out hgo] at AT
                    have hgo2 : ¬ room < (had.length : Int) - 1 - j := by omega
                    clear HGO HKE
                    have hbh2 : hb2 < wr.heap.size := block_lt_of_cell cy
                    dsimp only at AT
                    go_wp2_with (go_at_call 15; go_loud (with_reducible refine AT.mono ?_); rintro e w1 ⟨rfl, hb⟩; obtain ⟨hS, hE, hz, hc, hf⟩ := bcell hb; (try simp only [go_sem] at hE); subst hE)
                    refine ⟨⟨j + 1, by omega, by go_num, hbj.trans (hb.mono hzj)⟩, by simp [intOf]; omega⟩
                · obtain rfl : j = had.length := by omega
                  go_wp2
                  go_ret
                  exact ⟨by simp, HBW2.out.trans (hbj.mono (by have := HBW2.out.size; omega))⟩
  · have NW := new_no room w (by omega)
    go_enter Try.func5, Try.ntmps5
    go_wp2_with (first | (go_at_call 12; (with_reducible refine NW.mono ?_); rintro e w1 ⟨rfl, hb⟩; obtain ⟨hS, hE, hz, hc, hf⟩ := bcell hb; (try simp only [go_sem] at hE); subst hE) | (go_at_call 6; refine (lives_any _).mono ?_; rintro e w1 ⟨rfl, hb⟩; obtain ⟨hS, hE, hz, hc, hf⟩ := bcell hb; (try simp only [go_sem] at hE); subst hE))
    go_ret
    exact ⟨rfl, (by repeat' (first | (with_reducible exact Below.refl _ _) | (with_reducible refine below_drewN ?_ _) | (with_reducible refine Below.drew ?_) | (with_reducible refine Below.alloc ?_ ?_ _) | (with_reducible refine Below.setCell ?_ ?_ _) | (with_reducible refine below_step ?_ (by assumption) ?_) | go_size))⟩
theorem law : Law Try.checked 5 Try.f5 := by
  intro H enc W base args ds ps hval hA hsz
  have hA1 : DataW.TrodAll enc Try.prog W 0 (fun _ => true) true Try.f5.params.toList args.toList ds ps := hA
  have hw := weightsEach_at (sized_args hsz)
  have hw : ∀ (j : Nat) (t : TypeId) (d : DataW H), Try.f5.params.toList[j]? = some t → ds[j]? = some d → ∀ n ∈ d.weights Try.prog t, n ≤ 140737488351232 := hw
  rw [Try.params5] at hA1 hval hw
  obtain ⟨v0, vs0, d0, ds0, p0, q0, hargs, rfl, rfl, h0, r0⟩ := trodAll_cons hA1
  obtain ⟨v1, vs1, d1, ds1, p1, q1, rfl, rfl, rfl, h1, r1⟩ := trodAll_cons r0
  obtain ⟨v2, vs2, d2, ds2, p2, q2, rfl, rfl, rfl, h2, r2⟩ := trodAll_cons r1
  obtain ⟨rfl, rfl, rfl⟩ := trodAll_nil r2
  obtain rfl : args = #[v0, v1, v2] := by cases args; simp_all
  obtain ⟨n0, rfl, rfl, rfl, wn0⟩ := open_int Try.underlying3 (hval 0 _ v0 rfl rfl) h0
  obtain ⟨n1, rfl, rfl, rfl, wn1⟩ := open_int Try.underlying3 (hval 1 _ v1 rfl rfl) h1
  obtain ⟨A, len, cap, rfl⟩ := okWide_slice Try.underlying41 (hval 2 _ v2 rfl rfl)
  obtain ⟨A', n', c', zs, e, h1', h2', h3', h4', h5', _⟩ := rdS_list (val := Value.int .i64) (good := fun _ => True) (bytes := 8) (0 : Int) Try.underlying41 (by kernel_rfl) (by kernel_rfl) (fun cs h => by obtain ⟨n, e, _⟩ := rdS_i64 Try.underlying3 h; exact ⟨n, e, trivial⟩) (rdS_of h2 (hw 2 _ _ rfl rfl))
  simp only [Value.cells, List.cons.injEq, Value.slice.injEq, and_true] at e
  obtain ⟨rfl, rfl, rfl⟩ := e
  obtain ⟨b1, b2⟩ := bounds_i64 wn1
  exact walk ⟨h4', h5'⟩ (by omega) b1 b2

set_option maxRecDepth 100000 in
theorem step (os : Os) (started : os.Started) (H : Type) (enc : TypeId × Value → H) :
    ReturnsInHanded {} Try.checked os 5 .any (Rows.logBackSpec.pre6 enc Try.prog Try.f5 Rows.logBackRow.domain false) (Rows.logBackSpec.post enc Try.prog Try.f5 false true false false) :=
  lifted (C := Try.checked) (s := Rows.logBackSpec) own started (by kernel_rfl) Try.func5
    (ChangeSpec.witness6 (enc := enc) (C := Try.checked) false ⟨#[], #[.int .i64 0, .int .i64 0, .slice none 0 0], []⟩ 8 (by kernel_rfl) (by kernel_rfl) (by kernel_rfl) (by kernel_rfl))
    laidOut (by kernel_rfl) (by kernel_rfl) Try.underlying4 rfl (fun ds h => by match ds, h with | [d0, d1, d2], _ => rfl) law
set_option maxRecDepth 100000 in
theorem over : Rows.logBackRow.holds Try.pinned (OpenSpec.ofChange Rows.logBackSpec) :=
  OpenClaim.holds_of_wide 5 Try.f5 rfl rfl rfl rfl rfl rfl rfl ⟨rfl, rfl, rfl, rfl, rfl⟩ rfl rfl rfl rfl rfl (by kernel_rfl) Try.func5 (by kernel_rfl)
    (of_decide_eq_true (by kernel_rfl)) (by unfold Func.isWrapper; first | (rw [if_pos (by decide +kernel)]; kernel_rfl) | (rw [if_neg (by decide +kernel)]; exact ⟨rfl, rfl⟩))
    (fun os started H enc _ => step os started H enc)
theorem proved : Rows.LogBackSaid := over
#print axioms proved

end Go.Proofs.Ytngdlgmehefocaa.LogBack
