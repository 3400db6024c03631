/- Put, step by step. -/
import Derived.Test.YtmjggjccmbiheabTreeCut
import Derived.Test.YtmjggjccmbiheabName
namespace Go.Proofs.Ytmjggjccmbiheab
open Go Go.RowKit Go.Proofs Go.Sort
attribute [local go_sem] mk_list mk_size mk_data field0 field1 field2 field3

def OpTo2 (t b : Nat) (r : TreeSt × Int × Int) (W : World) (e : Ending) (W' : World) : Prop := e = .returned (.tuple #[.int .i64 r.2.1, .int .i64 r.2.2]) ∧ TreeAt W' t b r.1 ∧ Keep t b W W'
def lastS (S : TreeSt) (n : Int) : TreeSt := { S with last := n }
def newN (S : TreeSt) (d kind : Int) (data : Tx) : TreeSt := setM (lastS S (S.last + 1)) (S.last + 1) ⟨kind, d, data, []⟩
def putS (S : TreeSt) (d : Int) (s : Tx) (kind : Int) (data : Tx) : TreeSt × Int × Int :=
  if dirE S d ≠ 0 then (S, 0, dirE S d) else
  if checkI s ≠ 0 then (S, 0, checkI s) else
  if (findN S d s).2 = true then (S, 0, 6) else
  if mayE kind data ≠ 0 then (S, 0, mayE kind data) else
  if 4096 ≤ S.cnt then (S, 0, 12) else
  (enterS (newN S d kind data) d (putP (pn ((newN S d kind data).M d)).ents (s, S.last + 1)), S.last + 1, 0)
theorem TreeAt.setLast {W : World} {t b : Nat} {S : TreeSt} (h : TreeAt W t b S) (n : Int) : TreeAt (W.setCell ⟨t, 1, none⟩ (.int .i64 n)) t b (lastS S n) := by
  have h0 := h
  have hne := h0.ne
  obtain ⟨f, h1, h2, h3, h4⟩ := h
  have hK : Keep t b W (W.setCell ⟨t, 1, none⟩ (.int .i64 n)) := Keep.setR 1 _
  refine ⟨f, heap_setCell_at h1 1 _, h2.of_block ?_, h3, fun k r hr => (h4 k r hr).turn h0 hK⟩
  exact Below.heap_setCell _ _ _ _ (fun e => hne e.symm)
theorem SmallT.new {S : TreeSt} (h : SmallT S) (h2 : S.cnt < 4096) (h3 : S.last < 1000000) (d kind : Int) (data : Tx) : SmallT (newN S d kind data) := by
  refine ⟨fun k p hp => ?_, ?_, ?_⟩
  · unfold newN setM lastS at hp
    simp only at hp
    by_cases e : k = S.last + 1
    · subst e; rw [upd_same] at hp; cases hp; exact ⟨by simp, by simp⟩
    · rw [upd_other _ _ e] at hp; exact h.ents k p hp
  · unfold newN setM lastS
    simp only
    split <;> omega
  · have := h.last
    show 0 ≤ S.last + 1 ∧ S.last + 1 ≤ 1000000
    omega

set_option maxRecDepth 100000 in
set_option maxHeartbeats 4000000 in
theorem tree_Put_no (t b : Nat) (S : TreeSt) (d : Int) (s : Tx) (kind : Int) (data : Tx) (W : World) (h : TreeAt W t b S) (hs : SmallT S) (hk : wfI d) (hl : data.length ≤ 140737488351300) (hls : s.length ≤ 140737488351300)
    (hno : dirE S d ≠ 0 ∨ checkI s ≠ 0 ∨ (findN S d s).2 = true ∨ mayE kind data ≠ 0 ∨ 4096 ≤ S.cnt) :
    Calls Try.prog 16 #[.pointer (some ⟨t, 0, none⟩), .int .i64 d, .string (mk s), .int .i64 kind, .string (mk data)] W (OpTo2 t b (putS S d s kind data) W) := by
  have HD : Hid (Calls Try.prog 28 #[.pointer (some ⟨t, 0, none⟩), .int .i64 d] W fun e w' => e = .returned (.int .i64 (dirE S d)) ∧ Below W.heap.size W w') := Lib.hid (tree_dir t b S d W h hk)
  have HT := Lib.hid h
  have HC := Lib.hid (fun w => name_Check s w hls)
  have HM := Lib.hid (fun w => tree_may kind data w hl)
  have HH := Lib.hid (fun W' (hb : Below W.heap.size W W') => tree_has t b S d s W' (h.below hb) hk (by have := (hs.pn d).1; omega))
  obtain ⟨r, hr⟩ : ∃ r, putS S d s kind data = r := ⟨_, rfl⟩
  have HR := Lib.hid hr.symm
  rw [hr]
  unfold putS at HR
  clear hr h hk hs hl hls
  obtain ⟨q, hq⟩ : ∃ q, dirE S d = q := ⟨_, rfl⟩
  obtain ⟨ck, hck⟩ : ∃ ck, checkI s = ck := ⟨_, rfl⟩
  obtain ⟨ok, hok⟩ : ∃ ok, (findN S d s).2 = ok := ⟨_, rfl⟩
  obtain ⟨m, hm⟩ : ∃ m, mayE kind data = m := ⟨_, rfl⟩
  obtain ⟨cnt, hcnt⟩ : ∃ cnt, S.cnt = cnt := ⟨_, rfl⟩
  have HN := Lib.hid hcnt
  rw [hq] at HD HR hno
  rw [hck] at HC HR hno
  rw [hok] at HH HR hno
  rw [hm] at HM HR hno
  rw [hcnt] at HR hno
  clear hq hck hok hm hcnt
  by_cases hq0 : q = 0
  · subst hq0
    have HR1 : Hid (r = if ck ≠ 0 then (S, 0, ck) else if ok = true then (S, 0, 6) else if m ≠ 0 then (S, 0, m) else if 4096 ≤ cnt then (S, 0, 12) else (enterS (newN S d kind data) d (putP (pn ((newN S d kind data).M d)).ents (s, S.last + 1)), S.last + 1, 0)) := HR
    clear HR
    by_cases hc0 : ck = 0
    · subst hc0
      have HR2 : Hid (r = if ok = true then (S, 0, 6) else if m ≠ 0 then (S, 0, m) else if 4096 ≤ cnt then (S, 0, 12) else (enterS (newN S d kind data) d (putP (pn ((newN S d kind data).M d)).ents (s, S.last + 1)), S.last + 1, 0)) := HR1
      clear HR1
      cases ok with
      | true =>
        have HR3 : Hid (r = (S, 0, 6)) := HR2
        obtain rfl := HR3.out
        clear hno HR2 HR3
        go_enter Try.func16, Try.ntmps16
        go_wp2_with fail
        refine HD.out.mono ?_
        rintro e w1 ⟨rfl, hb⟩
        have HB := Lib.hid hb
        clear hb
        go_wp2_with fail
        refine (HC.out w1).mono ?_
        rintro e w2 ⟨rfl, hb⟩
        have HB2 := Lib.hid (ext_trans HB.out hb)
        clear hb
        go_wp2_with fail
        refine (HH.out w2 HB2.out).mono ?_
        rintro e w3 ⟨rfl, hb⟩
        have HB3 := Lib.hid (ext_trans HB2.out hb)
        clear hb
        go_wp2_with fail
        go_ret2
        exact ⟨rfl, HT.out.below HB3.out, Keep.below HB3.out⟩
      | false =>
        have HR3 : Hid (r = if m ≠ 0 then (S, 0, m) else if 4096 ≤ cnt then (S, 0, 12) else (enterS (newN S d kind data) d (putP (pn ((newN S d kind data).M d)).ents (s, S.last + 1)), S.last + 1, 0)) := HR2
        clear HR2
        by_cases hm0 : m = 0
        · subst hm0
          have h4096 : 4096 ≤ cnt := by simpa using hno
          have HR4 : Hid (r = (S, 0, 12)) := Lib.hid (by rw [HR3.out, if_neg (by simp), if_pos h4096])
          obtain rfl := HR4.out
          clear hno HR3 HR4
          have h4 : ((cnt : Int) ≥ 4096) := by omega
          clear h4096
          go_enter Try.func16, Try.ntmps16
          go_wp2_with fail
          refine HD.out.mono ?_
          rintro e w1 ⟨rfl, hb⟩
          have HB := Lib.hid hb
          clear hb
          go_wp2_with fail
          refine (HC.out w1).mono ?_
          rintro e w2 ⟨rfl, hb⟩
          have HB2 := Lib.hid (ext_trans HB.out hb)
          clear hb
          go_wp2_with fail
          refine (HH.out w2 HB2.out).mono ?_
          rintro e w3 ⟨rfl, hb⟩
          have HB3 := Lib.hid (ext_trans HB2.out hb)
          clear hb
          go_wp2_with fail
          refine (HM.out w3).mono ?_
          rintro e w4 ⟨rfl, rfl⟩
          obtain ⟨t0, _, hlt⟩ := (HT.out.below HB3.out).cell
          have hlen : (Builtin.len_ #[52] 3 #[.map (some b)]).run Try.prog w3 = .ok (.int .i64 cnt) w3 := by
            obtain ⟨f, _, h2, _⟩ := HT.out.below HB3.out
            rw [h2.len 3, HN.out]
          go_wp2_with fail
          go_ret2
          exact ⟨rfl, HT.out.below HB3.out, Keep.below HB3.out⟩
        · have HR4 : Hid (r = (S, 0, m)) := Lib.hid (by rw [HR3.out, if_pos hm0])
          obtain rfl := HR4.out
          have hm1 : (m == 0) = false := by simpa using hm0
          have hm2 : (m != 0) = true := by simpa using hm0
          clear hno HR3 HR4 hm0
          go_enter Try.func16, Try.ntmps16
          go_wp2_with fail
          refine HD.out.mono ?_
          rintro e w1 ⟨rfl, hb⟩
          have HB := Lib.hid hb
          clear hb
          go_wp2_with fail
          refine (HC.out w1).mono ?_
          rintro e w2 ⟨rfl, hb⟩
          have HB2 := Lib.hid (ext_trans HB.out hb)
          clear hb
          go_wp2_with fail
          refine (HH.out w2 HB2.out).mono ?_
          rintro e w3 ⟨rfl, hb⟩
          have HB3 := Lib.hid (ext_trans HB2.out hb)
          clear hb
          go_wp2_with fail
          refine (HM.out w3).mono ?_
          rintro e w4 ⟨rfl, rfl⟩
          go_wp2_with fail
          go_ret2
          exact ⟨rfl, HT.out.below HB3.out, Keep.below HB3.out⟩
    · have HR2 : Hid (r = (S, 0, ck)) := Lib.hid (by rw [HR1.out, if_pos hc0])
      obtain rfl := HR2.out
      have hc1 : (ck == 0) = false := by simpa using hc0
      have hc2 : (ck != 0) = true := by simpa using hc0
      clear hno HR1 HR2 hc0
      go_enter Try.func16, Try.ntmps16
      go_wp2_with fail
      refine HD.out.mono ?_
      rintro e w1 ⟨rfl, hb⟩
      have HB := Lib.hid hb
      clear hb
      go_wp2_with fail
      refine (HC.out w1).mono ?_
      rintro e w2 ⟨rfl, hb⟩
      have HB2 := Lib.hid (ext_trans HB.out hb)
      clear hb
      go_wp2_with fail
      go_ret2
      exact ⟨rfl, HT.out.below HB2.out, Keep.below HB2.out⟩
  · have HR2 : Hid (r = (S, 0, q)) := Lib.hid (by rw [HR.out, if_pos hq0])
    obtain rfl := HR2.out
    have hq1 : (q == 0) = false := by simpa using hq0
    have hq2 : (q != 0) = true := by simpa using hq0
    clear hno HR HR2 hq0
    go_enter Try.func16, Try.ntmps16
    go_wp2_with fail
    refine HD.out.mono ?_
    rintro e w1 ⟨rfl, hb⟩
    have HB := Lib.hid hb
    clear hb
    go_wp2_with fail
    go_ret2
    exact ⟨rfl, HT.out.below HB.out, Keep.below HB.out⟩

set_option maxRecDepth 100000 in
set_option maxHeartbeats 4000000 in
theorem tree_Put_yes (t b : Nat) (S : TreeSt) (d : Int) (s : Tx) (kind : Int) (data : Tx) (W : World) (h : TreeAt W t b S) (hs : SmallT S) (hk : wfI d) (hl : data.length ≤ 140737488351300) (hls : s.length ≤ 140737488351300)
    (y1 : dirE S d = 0) (y2 : checkI s = 0) (y3 : (findN S d s).2 = false) (y4 : mayE kind data = 0) (y5 : S.cnt < 4096) (y6 : S.last < 1000000) :
    Calls Try.prog 16 #[.pointer (some ⟨t, 0, none⟩), .int .i64 d, .string (mk s), .int .i64 kind, .string (mk data)] W (OpTo2 t b (putS S d s kind data) W) := by
  have HD : Hid (Calls Try.prog 28 #[.pointer (some ⟨t, 0, none⟩), .int .i64 d] W fun e w' => e = .returned (.int .i64 (dirE S d)) ∧ Below W.heap.size W w') := Lib.hid (tree_dir t b S d W h hk)
  have HT := Lib.hid h
  have HC := Lib.hid (fun w => name_Check s w hls)
  have HM := Lib.hid (fun w => tree_may kind data w hl)
  have HH := Lib.hid (fun W' (hb : Below W.heap.size W W') => tree_has t b S d s W' (h.below hb) hk (by have := (hs.pn d).1; omega))
  have HRR : Hid (putS S d s kind data = (enterS (newN S d kind data) d (putP (pn ((newN S d kind data).M d)).ents (s, S.last + 1)), S.last + 1, 0)) := Lib.hid (by
    unfold putS
    rw [y1, y2, y3, y4, if_neg (by simp), if_neg (by simp), if_neg (by simp), if_neg (by simp), if_neg (by omega)])
  rw [HRR.out]
  rw [y1] at HD
  rw [y2] at HC
  rw [y3] at HH
  rw [y4] at HM
  obtain ⟨S2, hS2⟩ : ∃ S2, newN S d kind data = S2 := ⟨_, rfl⟩
  have HS2 : Hid (newN S d kind data = S2 ∧ SmallT S2 ∧ S2.last = S.last + 1) := Lib.hid ⟨hS2, hS2 ▸ hs.new y5 y6 d kind data, hS2 ▸ rfl⟩
  have HK := Lib.hid (And.intro hk hs)
  rw [hS2]
  obtain ⟨P2, hP2⟩ : ∃ P2, pn (S2.M d) = P2 := ⟨_, rfl⟩
  have HP2 := Lib.hid hP2
  rw [hP2]
  obtain ⟨kd2, up2, da2, es2⟩ := P2
  simp only
  obtain ⟨cnt, hcnt⟩ : ∃ cnt, S.cnt = cnt := ⟨_, rfl⟩
  obtain ⟨last, hlast⟩ : ∃ last, S.last = last := ⟨_, rfl⟩
  have HN := Lib.hid (And.intro hcnt hlast)
  have h4 : ¬ ((cnt : Int) ≥ 4096) := by omega
  have hb0 : 0 ≤ last := by rw [← hlast]; exact hs.last.1
  have hb1 : last + 1 ≤ 1000000 := by omega
  rw [hlast]
  clear hS2 hP2 hcnt hlast y1 y2 y3 y4 y5 y6 h hk hs hl hls
  go_enter Try.func16, Try.ntmps16
  go_wp2_with fail
  refine HD.out.mono ?_
  rintro e w1 ⟨rfl, hb⟩
  have HB := Lib.hid hb
  clear hb
  go_wp2_with fail
  refine (HC.out w1).mono ?_
  rintro e w2 ⟨rfl, hb⟩
  have HB2 := Lib.hid (ext_trans HB.out hb)
  clear hb
  go_wp2_with fail
  refine (HH.out w2 HB2.out).mono ?_
  rintro e w3 ⟨rfl, hb⟩
  have HB3 := Lib.hid (ext_trans HB2.out hb)
  clear hb
  go_wp2_with fail
  refine (HM.out w3).mono ?_
  rintro e w4 ⟨rfl, rfl⟩
  have HT3 := Lib.hid (HT.out.below HB3.out)
  obtain ⟨t0, t1, hlt⟩ := HT3.out.cell
  rw [HN.out.2] at t1
  have q1 : w3.frozen? ⟨t, 1, none⟩ = false := by
    obtain ⟨f, h1, _⟩ := HT3.out
    exact blk_frozen h1 1
  have hlen : (Builtin.len_ #[52] 3 #[.map (some b)]).run Try.prog w3 = .ok (.int .i64 cnt) w3 := by
    obtain ⟨f, _, h2, _⟩ := HT3.out
    rw [h2.len 3, HN.out.1]
  have HT4 := Lib.hid (HT3.out.setLast (last + 1))
  obtain ⟨W4, hW4⟩ : ∃ W4, w3.setCell ⟨t, 1, none⟩ (.int .i64 (last + 1)) = W4 := ⟨_, rfl⟩
  have HK4 : Hid (Keep t b W W4) := Lib.hid (by rw [← hW4]; exact (Keep.below HB3.out).trans (Keep.setR 1 _))
  rw [hW4] at HT4
  have hbd : Below W4.heap.size W4 W4.drew := below_drewN (Below.refl _ _) 1
  obtain ⟨w5, hrun, hT5, hK5⟩ := (HT4.out.below hbd).put (k := last + 1) (wf_small (by omega) (by omega)) (by have := HK.out.2.cnt; show S.cnt ≤ _; omega) ⟨kind, d, data, []⟩ none 0 (.inl rfl)
  have HT5 : Hid (TreeAt w5 t b S2) := Lib.hid (by
    have := HS2.out.1
    unfold newN at this
    rw [HN.out.2] at this
    rw [← this]
    exact hT5)
  have HK5 := Lib.hid (HK4.out.trans ((Keep.below hbd).trans hK5))
  have e0 : (⟨#[]⟩ : ByteArray) = mk [] := rfl
  simp only [List.length_nil] at hrun
  obtain ⟨u0, u1, hlt5⟩ := HT5.out.cell
  rw [HS2.out.2.2, HN.out.2] at u1
  have hbd5 : Below w5.heap.size w5 w5.drew := below_drewN (Below.refl _ _) 1
  obtain ⟨A6, c6, hln6, he6⟩ := (HT5.out.below hbd5).node HK.out.1
  have hln6 := hln6 _ (Below.refl _ _)
  have HPU := Lib.hid (ents_Put A6 c6 _ s (last + 1) w5.drew he6 (by have := (HS2.out.2.1.pn d).1; omega))
  rw [HP2.out] at hln6 HPU
  simp only at hln6 HPU
  clear hT5 hK5 hbd hbd5 he6
  go_wp2_with fail
  try rw [hW4]
  have v0 : W4.cell? ⟨t, 0, none⟩ = some (.map (some b)) := HT4.out.cell.1
  have v1 : W4.cell? ⟨t, 1, none⟩ = some (.int .i64 (last + 1)) := HT4.out.cell.2.1
  clear t0 t1 q1 hlen
  go_region_held3 (fun w' => w'.cell? ⟨t, 0, none⟩ = some (.map (some b)) ∧ w'.cell? ⟨t, 1, none⟩ = some (.int .i64 (last + 1))) (first | (with_reducible exact ⟨by assumption, by assumption⟩) | go_keep) (fail)
  clear v0 v1
  go_wp2_with fail
  go_region_held3 (fun w' => w'.cell? ⟨t, 0, none⟩ = some (.map (some b)) ∧ w'.cell? ⟨t, 1, none⟩ = some (.int .i64 (last + 1))) (first | (with_reducible exact ⟨by assumption, by assumption⟩) | go_keep)
    (first
      | (go_at_call 33; refine HPU.out.mono ?_; rintro e w6 ⟨v, rfl, ho, hb6⟩; obtain ⟨A7, c7, rfl, he7, _⟩ := ho.at; have HB6 := Lib.hid (ext_trans (below_drewN (Below.refl w5.heap.size w5) 1) hb6); have HEN := Lib.hid (tree_enter t b S2 d A7 c7 _ w6 (HT5.out.below HB6.out) HK.out.1 (by have := HS2.out.2.1.cnt; omega) he7); have z0 := (HT5.out.below HB6.out).cell.1; have z1 := (HT5.out.below HB6.out).cell.2.1; rw [HS2.out.2.2, HN.out.2] at z1; clear ho hb6 he7)
      | (go_at_call 32; refine HEN.out.mono ?_; rintro e w7 ⟨rfl, hT7, hK7⟩; have HR7 := Lib.hid (And.intro hT7 (HK5.out.trans ((Keep.below HB6.out).trans hK7))); have z3 := hT7.cell.1; have z4 : w7.cell? ⟨t, 1, none⟩ = some (.int .i64 S2.last) := hT7.cell.2.1; rw [HS2.out.2.2, HN.out.2] at z4; clear hT7 hK7))
  go_wp2_with fail
  go_ret2
  refine ⟨rfl, ?_, HR7.out.2⟩
  have h7 := HR7.out.1
  exact h7
end Go.Proofs.Ytmjggjccmbiheab
