/- inside, room, step by step. -/
import Derived.Test.YtmjggjccmbiheabTreePut
import Derived.Deep.QuietTactic
import Derived.BigQuiet
namespace Go.Proofs.Ytmjggjccmbiheab
open Go Go.RowKit Go.Proofs Go.Sort
attribute [local go_sem] mk_list mk_size mk_data field0 field1 field2 field3

theorem tree_Put (t b : Nat) (S : TreeSt) (d : Int) (s : Tx) (kind : Int) (data : Tx) (W : World) (h : TreeAt W t b S) (hs : SmallT S) (hk : wfI d) (hl : data.length ≤ 140737488351300) (hls : s.length ≤ 140737488351300) (y6 : S.last < 1000000) :
    Calls Try.prog 16 #[.pointer (some ⟨t, 0, none⟩), .int .i64 d, .string (mk s), .int .i64 kind, .string (mk data)] W (OpTo2 t b (putS S d s kind data) W) := by
  by_cases hno : dirE S d ≠ 0 ∨ checkI s ≠ 0 ∨ (findN S d s).2 = true ∨ mayE kind data ≠ 0 ∨ 4096 ≤ S.cnt
  · exact tree_Put_no t b S d s kind data W h hs hk hl hls hno
  · simp only [not_or, Decidable.not_not, Bool.not_eq_true, Nat.not_le] at hno
    exact tree_Put_yes t b S d s kind data W h hs hk hl hls hno.1 hno.2.1 hno.2.2.1 hno.2.2.2.1 hno.2.2.2.2 y6

def upM (S : TreeSt) (n : Int) : Int := (pn (S.M n)).up
/-- Does a way up from n come by dir? -/
def insF (S : TreeSt) (dir : Int) : Nat → Int → Bool
  | 0, n => n == dir
  | f + 1, n => if n == dir || n == 1 then n == dir else insF S dir f (upM S n)
/-- Each way up ends. -/
def Ranked (S : TreeSt) (rk : Int → Nat) (Good : Int → Prop) : Prop := ∀ n, Good n → wfI n ∧ (n ≠ 1 → rk (upM S n) < rk n ∧ Good (upM S n))
set_option maxRecDepth 100000 in
set_option maxHeartbeats 2000000 in
theorem tree_inside (t b : Nat) (S : TreeSt) (n dir : Int) (W : World) (h : TreeAt W t b S) (rk : Int → Nat) (Good : Int → Prop) (hr : Ranked S rk Good) (hn : Good n) :
    Calls Try.prog 39 #[.pointer (some ⟨t, 0, none⟩), .int .i64 n, .int .i64 dir] W fun e w' => e = .returned (.bool (insF S dir (rk n) n)) ∧ W = w' := by
  have HT := Lib.hid h
  have HR := Lib.hid hr
  have HN := Lib.hid hn
  obtain ⟨t0, _, hlt⟩ := h.cell
  obtain ⟨r, hrr⟩ : ∃ r, insF S dir (rk n) n = r := ⟨_, rfl⟩
  have HRR := Lib.hid hrr
  rw [hrr]
  clear hrr h hr hn
  go_enter Try.func39, Try.ntmps39
  go_wp2_with fail
  go_loopg [1] (rk n) (fun g nv wx => ∃ m : Int, nv = .int .i64 m ∧ Hid (Good m) ∧ Hid (rk m ≤ g) ∧ Hid (r = insF S dir g m) ∧ wx = W)
  case atStart => exact ⟨n, rfl, HN, Lib.hid (Nat.le_refl _), Lib.hid HRR.out.symm, rfl⟩
  case round =>
    obtain ⟨m, rfl, HG, HK, HQ, rfl⟩ := hrel
    cases hd : (m == dir)
    · cases h1 : (m == 1)
      · have hd' : (m != dir) = true := by rw [bne, hd]; rfl
        have h1' : (m != 1) = true := by rw [bne, h1]; rfl
        have HU := Lib.hid ((HR.out m HG.out).2 (by simpa using h1))
        obtain ⟨A, c, hln, _⟩ := HT.out.node (HR.out m HG.out).1
        have hln := hln _ (Below.refl _ _)
        obtain ⟨u, hu⟩ : ∃ u, upM S m = u := ⟨_, rfl⟩
        rw [hu] at HU
        have HUU := Lib.hid hu
        have hu2 : (pn (S.M m)).up = u := hu
        rw [hu2] at hln
        generalize pn (S.M m) = p at hln
        obtain ⟨kd, up, da, es⟩ := p
        simp only at hln
        clear hu hu2
        cases gk with
        | zero => exact absurd HK.out (by have := HU.out.1; omega)
        | succ g =>
          have HQ2 : Hid (r = insF S dir g u) := Lib.hid (by
            rw [HQ.out]
            show (if (m == dir || m == 1) = true then m == dir else insF S dir g (upM S m)) = _
            rw [hd, h1, HUU.out]; rfl)
          go_wp2_with fail
          go_roundg g
          case measure => omega
          case rel => exact ⟨u, rfl, Lib.hid HU.out.2, Lib.hid (by have := HU.out.1; have := HK.out; omega), HQ2, rfl⟩
      · have hd' : (m != dir) = true := by rw [bne, hd]; rfl
        have h1' : (m != 1) = false := by rw [bne, h1]; rfl
        have HQ2 : Hid (r = false) := Lib.hid (by
          rw [HQ.out]
          cases gk with
          | zero => exact hd
          | succ g =>
            show (if (m == dir || m == 1) = true then m == dir else insF S dir g (upM S m)) = _
            rw [hd, h1]; rfl)
        obtain rfl := HQ2.out
        go_wp2_with fail
        go_ret
        exact ⟨rfl, rfl⟩
    · have hd' : (m != dir) = false := by rw [bne, hd]; rfl
      have HQ2 : Hid (r = true) := Lib.hid (by
        rw [HQ.out]
        cases gk with
        | zero => exact hd
        | succ g =>
          show (if (m == dir || m == 1) = true then m == dir else insF S dir g (upM S m)) = _
          rw [hd]; rfl)
      obtain rfl := HQ2.out
      go_wp2_with fail
      go_ret
      exact ⟨rfl, rfl⟩

def roomS (S : TreeSt) (n to_ : Int) (as_ : Tx) : TreeSt × Bool × Int :=
  if (findN S to_ as_).2 = false then (S, false, 0) else
  if ((findN S to_ as_).1 == n) = true then (S, true, 0) else
  if ((pn (S.M (findN S to_ as_).1)).kind == 1) = true ∧ ((pn (S.M n)).kind == 1) = false then (S, false, 8) else
  if ((pn (S.M n)).kind == 1) = true ∧ ((pn (S.M (findN S to_ as_).1)).kind == 1) = false then (S, false, 7) else
  ((cutS S to_ as_).1, false, (cutS S to_ as_).2)
def RoomTo (t b : Nat) (r : TreeSt × Bool × Int) (W : World) (e : Ending) (W' : World) : Prop := e = .returned (.tuple #[.bool r.2.1, .int .i64 r.2.2]) ∧ TreeAt W' t b r.1 ∧ Keep t b W W'
set_option maxRecDepth 100000 in
set_option maxHeartbeats 4000000 in
theorem tree_room (t b : Nat) (S : TreeSt) (n to_ : Int) (as_ : Tx) (W : World) (h : TreeAt W t b S) (hs : SmallT S) (hn : wfI n) (hk : wfI to_) :
    Calls Try.prog 40 #[.pointer (some ⟨t, 0, none⟩), .int .i64 n, .int .i64 to_, .string (mk as_)] W (RoomTo t b (roomS S n to_ as_) W) := by
  have HT := Lib.hid h
  have HK := Lib.hid (And.intro hk hn)
  have HSM := Lib.hid hs
  obtain ⟨t0, _, hlt⟩ := h.cell
  obtain ⟨A, c, hln, he⟩ := h.node hk
  have hln := hln W (Below.refl _ _)
  have HF := Lib.hid (ents_Find A c _ as_ W he (by have := (hs.pn to_).1; omega))
  obtain ⟨fi, hf⟩ : ∃ fi, findN S to_ as_ = fi := ⟨_, rfl⟩
  obtain ⟨old, ok⟩ := fi
  have HO : Hid (wfI old) := Lib.hid (by have := find_bnd hs to_ as_; rw [hf] at this; exact wf_small this.1 (by have := this.2; simp only at this; omega))
  rw [show findE (allE (pn (S.M to_)).ents) as_ = (old, ok) from hf] at HF
  obtain ⟨r, hr⟩ : ∃ r, roomS S n to_ as_ = r := ⟨_, rfl⟩
  have HR := Lib.hid hr.symm
  unfold roomS at HR
  rw [hf] at HR
  rw [hr]
  have HC := Lib.hid (fun W' (hb : Below W.heap.size W W') => tree_Cut t b S to_ as_ W' (h.below hb) hs hk)
  generalize pn (S.M to_) = p at hln HF
  obtain ⟨kd, up, da, es⟩ := p
  simp only at hln HF HR
  clear hr hf he h hs hn hk
  go_enter Try.func40, Try.ntmps40
  go_wp2_with fail
  refine HF.out.mono ?_
  rintro e w1 ⟨rfl, hb⟩
  have HB := Lib.hid hb
  clear hb t0 hlt hln
  obtain ⟨t0, _, hlt⟩ := (HT.out.below HB.out).cell
  have hbd : Below w1.heap.size w1 w1.drew := below_drewN (Below.refl _ _) 1
  obtain ⟨A1, c1, hl1, _⟩ := (HT.out.below HB.out).node HK.out.2
  obtain ⟨A2, c2, hl2, _⟩ := (HT.out.below HB.out).node HO.out
  have hl1 := hl1 _ hbd
  have hl2 := hl2 _ hbd
  generalize pn (S.M n) = p1 at hl1 HR
  generalize pn (S.M old) = p2 at hl2 HR
  obtain ⟨k1, u1, d1, e1⟩ := p1
  obtain ⟨k2, u2, d2, e2⟩ := p2
  simp only at hl1 hl2 HR
  clear hbd
  go_wp2_with fail
  go_region_held3 (fun w' => w'.cell? ⟨t, 0, none⟩ = some (.map (some b)) ∧ (Instr.lookup 52 (.map (some b)) (.int .i64 n) false).run Try.prog w' = .ok (.agg #[.int .i64 k1, .int .i64 u1, .string (mk d1), .slice A1 e1.length c1]) w' ∧ (Instr.lookup 52 (.map (some b)) (.int .i64 old) false).run Try.prog w' = .ok (.agg #[.int .i64 k2, .int .i64 u2, .string (mk d2), .slice A2 e2.length c2]) w') (first | (with_reducible exact ⟨by assumption, by assumption, by assumption⟩) | go_keep) (fail)
  all_goals
    have hbd : Below W.heap.size W w1.drew := below_drewN HB.out 1
    have HBD := Lib.hid hbd
    clear hbd hl1 hl2
    cases ok with
    | false =>
      have HR2 : Hid (r = (S, false, 0)) := HR
      obtain rfl := HR2.out
      go_wp2_with fail
      go_ret2
      exact ⟨rfl, HT.out.below HBD.out, Keep.below HBD.out⟩
    | true =>
      cases hon : (old == n)
      · cases hk2 : (k2 == 1)
        · cases hk1 : (k1 == 1)
          · have HR2 : Hid (r = ((cutS S to_ as_).1, false, (cutS S to_ as_).2)) := Lib.hid (by rw [HR.out, hon, hk2, hk1]; simp)
            obtain rfl := HR2.out
            go_wp2_with fail
            refine (HC.out _ HBD.out).mono ?_
            rintro e w2 ⟨rfl, hT, hK⟩
            have HX := Lib.hid (And.intro hT ((Keep.below HBD.out).trans hK))
            clear hT hK
            go_wp2_with fail
            go_ret2
            exact ⟨rfl, HX.out.1, HX.out.2⟩
          · have HR2 : Hid (r = (S, false, 7)) := Lib.hid (by rw [HR.out, hon, hk2, hk1]; simp)
            obtain rfl := HR2.out
            go_wp2_with fail
            go_ret2
            exact ⟨rfl, HT.out.below HBD.out, Keep.below HBD.out⟩
        · cases hk1 : (k1 == 1)
          · have HR2 : Hid (r = (S, false, 8)) := Lib.hid (by rw [HR.out, hon, hk2, hk1]; simp)
            obtain rfl := HR2.out
            go_wp2_with fail
            go_ret2
            exact ⟨rfl, HT.out.below HBD.out, Keep.below HBD.out⟩
          · have HR2 : Hid (r = ((cutS S to_ as_).1, false, (cutS S to_ as_).2)) := Lib.hid (by rw [HR.out, hon, hk2, hk1]; simp)
            obtain rfl := HR2.out
            go_wp2_with fail
            refine (HC.out _ HBD.out).mono ?_
            rintro e w2 ⟨rfl, hT, hK⟩
            have HX := Lib.hid (And.intro hT ((Keep.below HBD.out).trans hK))
            clear hT hK
            go_wp2_with fail
            go_ret2
            exact ⟨rfl, HX.out.1, HX.out.2⟩
      · have HR2 : Hid (r = (S, true, 0)) := Lib.hid (by rw [HR.out, hon]; simp)
        obtain rfl := HR2.out
        go_wp2_with fail
        go_ret2
        exact ⟨rfl, HT.out.below HBD.out, Keep.below HBD.out⟩
end Go.Proofs.Ytmjggjccmbiheab
