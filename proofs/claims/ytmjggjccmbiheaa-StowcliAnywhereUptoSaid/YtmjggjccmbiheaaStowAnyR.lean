/- The region of the law's call that appends three times, parses and stores, in whatever order: state by state. -/
import Derived.Test.YtmjggjccmbiheaaStowAnyQ
import Derived.Deep.RegionHeld3
namespace Go.Proofs.Ytmjggjccmbiheaa
open Go Go.RowKit Go.Proofs Go.Sort
attribute [local go_sem] mk_list mk_size mk_data

/-- The operations of a region, by its number. -/
def regionOf (n : Nat) : Code → Option (Array Oper)
  | .region i ops _ => if i = n then some ops else none
  | .seq a b => match regionOf n a with
    | some r => some r
    | none => regionOf n b
  | .cond _ a b => match regionOf n a with
    | some r => some r
    | none => regionOf n b
  | .block _ a => regionOf n a
  | .loop a => regionOf n a
  | .scope a => regionOf n a
  | _ => none
noncomputable def r12 : Array Oper := match Try.f13.body with
  | some c => (regionOf 12 c).getD #[]
  | none => #[]
theorem region_as {P : Program} {id : Nat} {ops : Array Oper} {b : Bool} {Q : Exit → Act → World → Prop} {a : Act} {w : World} (ops' : Array Oper) (e : ops = ops') (h : (Code.region id ops' b).wp P Q a w) : (Code.region id ops b).wp P Q a w := by rw [e]; exact h
theorem r12_size : r12.size = 21 := by kernel_rfl
noncomputable def p12 (i : Nat) : String := match r12[i]? with
  | some o => o.pos
  | none => ""
noncomputable def f12 (i : Nat) : Array Edge := match r12[i]? with
  | some o => o.after
  | none => #[]
noncomputable def t12 (i : Nat) : TypeId := match r12[i]? with
  | some o => o.type
  | none => 0
theorem o0 : ∃ p f, r12[0]? = some ⟨some 110, Op.buildSlice 29 0 #[], 29, p, f, none⟩ := ⟨p12 0, f12 0, by kernel_rfl⟩
theorem o1 : ∃ p f, r12[1]? = some ⟨some 111, Op.move (Operand.tmp 0), 29, p, f, none⟩ := ⟨p12 1, f12 1, by kernel_rfl⟩
theorem o2 : ∃ p f, r12[2]? = some ⟨some 112, Op.move (Operand.tmp 2), 3, p, f, none⟩ := ⟨p12 2, f12 2, by kernel_rfl⟩
theorem o3 : ∃ p f, r12[3]? = some ⟨some 113, Op.slice 29 (Operand.tmp 111) none (some (Operand.tmp 112)) none, 29, p, f, none⟩ := ⟨p12 3, f12 3, by kernel_rfl⟩
theorem o4 : ∃ p f, r12[4]? = some ⟨some 114, Op.call { callee := Callee.builtin Builtin.append, args := #[Operand.tmp 110, Operand.tmp 113], argTypes := #[29, 29] }, 29, p, f, none⟩ := ⟨p12 4, f12 4, by kernel_rfl⟩
theorem o5 : ∃ p f, r12[5]? = some ⟨some 115, Op.move (Operand.tmp 1), 9, p, f, none⟩ := ⟨p12 5, f12 5, by kernel_rfl⟩
theorem o6 : ∃ p f, r12[6]? = some ⟨some 116, Op.buildSlice 29 1 #[(0, Operand.tmp 115)], 29, p, f, none⟩ := ⟨p12 6, f12 6, by kernel_rfl⟩
theorem o7 : ∃ p f, r12[7]? = some ⟨some 117, Op.call { callee := Callee.builtin Builtin.append, args := #[Operand.tmp 114, Operand.tmp 116], argTypes := #[29, 29] }, 29, p, f, none⟩ := ⟨p12 7, f12 7, by kernel_rfl⟩
theorem o8 : ∃ p f, r12[8]? = some ⟨some 118, Op.move (Operand.tmp 0), 29, p, f, none⟩ := ⟨p12 8, f12 8, by kernel_rfl⟩
theorem o9 : ∃ p f, r12[9]? = some ⟨some 119, Op.move (Operand.tmp 2), 3, p, f, none⟩ := ⟨p12 9, f12 9, by kernel_rfl⟩
theorem o10 : ∃ p f, r12[10]? = some ⟨some 120, Op.slice 29 (Operand.tmp 118) (some (Operand.tmp 119)) none none, 29, p, f, none⟩ := ⟨p12 10, f12 10, by kernel_rfl⟩
theorem o11 : ∃ p f, r12[11]? = some ⟨some 121, Op.call { callee := Callee.builtin Builtin.append, args := #[Operand.tmp 117, Operand.tmp 120], argTypes := #[29, 29] }, 29, p, f, none⟩ := ⟨p12 11, f12 11, by kernel_rfl⟩
theorem o12 : ∃ t p f, r12[12]? = some ⟨some 122, Op.call { callee := Callee.value (Operand.func 65), args := #[Operand.tmp 121], argTypes := #[29] }, t, p, f, none⟩ := ⟨t12 12, p12 12, f12 12, by kernel_rfl⟩
theorem o13 : ∃ t p f, r12[13]? = some ⟨some 109, Op.move (Operand.tmp 122), t, p, f, none⟩ := ⟨t12 13, p12 13, f12 13, by kernel_rfl⟩
theorem o14 : ∃ p f, r12[14]? = some ⟨some 123, Op.extract (Operand.tmp 109) 0, 73, p, f, none⟩ := ⟨p12 14, f12 14, by kernel_rfl⟩
theorem o15 : ∃ p f, r12[15]? = some ⟨some 124, Op.extract (Operand.tmp 109) 1, 3, p, f, none⟩ := ⟨p12 15, f12 15, by kernel_rfl⟩
theorem o16 : ∃ p f, r12[16]? = some ⟨some 125, Op.extract (Operand.tmp 109) 2, 25, p, f, none⟩ := ⟨p12 16, f12 16, by kernel_rfl⟩
theorem o17 : ∃ p f, r12[17]? = some ⟨some 14, Op.alloc 73, 0, p, f, none⟩ := ⟨p12 17, f12 17, by kernel_rfl⟩
theorem o18 : ∃ p f, r12[18]? = some ⟨none, Op.store 73 (Operand.tmp 14) (Operand.tmp 123), 0, p, f, none⟩ := ⟨p12 18, f12 18, by kernel_rfl⟩
theorem o19 : ∃ p f, r12[19]? = some ⟨some 15, Op.assign (Operand.tmp 124), 3, p, f, none⟩ := ⟨p12 19, f12 19, by kernel_rfl⟩
theorem o20 : ∃ p f, r12[20]? = some ⟨some 16, Op.assign (Operand.tmp 125), 25, p, f, none⟩ := ⟨p12 20, f12 20, by kernel_rfl⟩
/-- What the region leans on. -/
structure R12 (wc : World) (how : Tx) (wa wb : List Tx) (A B : Option Addr) (k m cA cB : Nat) (WM : List Tx) (C : CmdT) : Prop where
  la : wa.length = k
  lb : wb.length = m
  sa : StrsAt wc A wa
  sb : StrsAt wc B wb
  b1 : (0 + k) * 16 ≤ 140737488355328
  b2 : (0 + k + 1) * 16 ≤ 140737488355328
  b3 : (0 + k + 1 + m) * 16 ≤ 140737488355328
  eq : ([] ++ wa) ++ [how] ++ wb = WM
  to : stowS WM = .inl C
  wt : wt WM ≤ 5000000

theorem listed_as {P : Program} {md : Region.Mode} {ops : Array Oper} {Q : Exit → Act → World → Prop} {S : World → Prop} {fuel : Nat} {L L' : Array Bool} {a : Act} {w : World} (e : L = L') (h : wpAnyH P md ops Q S fuel L' a w) : wpAnyH P md ops Q S fuel L a w := by rw [e]; exact h
theorem ne_of_objs {w : World} {g h : Nat} {a b : Obj} (hg : w.heap[g]? = some a) (hh : w.heap[h]? = some b) (e : a ≠ b) : (Value.slice (some ⟨g, 0, none⟩) 0 0).ownBlock ≠ some h := by
  simp only [Value.ownBlock]
  intro e2
  have := Option.some.inj e2
  subst this
  rw [hg] at hh
  exact e (Option.some.inj hh)

set_option maxRecDepth 100000 in
set_option maxHeartbeats 1000000 in
theorem r12_12az {x0 x1 x2 x3 x4 x5 x6 x7 x8 x9 x10 x11 x12 x13 x15 x16 x17 x18 x19 x20 x21 x22 x23 x24 x25 x26 x27 x28 x29 x30 x31 x32 x33 x34 x35 x36 x37 x38 x39 x40 x41 x42 x43 x44 x45 x46 x47 x48 x49 x50 x51 x52 x53 x54 x55 x56 x57 x58 x59 x60 x61 x62 x63 x64 x65 x66 x67 x68 x69 x70 x71 x72 x73 x74 x75 x76 x77 x78 x79 x80 x81 x82 x83 x84 x85 x86 x87 x88 x89 x90 x91 x92 x93 x94 x95 x96 x97 x98 x99 x100 x101 x102 x103 x104 x105 x106 x107 x108 x109 x110 x111 x112 x113 x114 x115 x116 x117 x118 x119 x120 x121 x122 x126 x127 x128 x129 x130 x131 x132 x133 x134 x135 x136 x137 x138 x139 x140 x141 x142 x143 x144 x145 x146 x147 x148 x149 x150 x151 x152 x153 x154 x155 x156 x157 x158 x159 x160 x161 x162 : Value} {wc : World} {how : Tx} {wa wb : List Tx} {A B : Option Addr} {k m cA cB : Nat} {WM : List Tx} {C : CmdT} {Q : Exit → Act → World → Prop} (_H : R12 wc how wa wb A B k m cA cB WM C) (hQ : ∀ (y109 y110 y111 y112 y113 y114 y115 y116 y117 y118 y119 y120 y121 y122 y123 y124 y125 : Value) (z : Nat) (w' : World), CmdMem w' z wc.heap.size C → Below wc.heap.size wc w' → Q .normal ⟨#[x0, x1, x2, x3, x4, x5, x6, x7, x8, x9, x10, x11, x12, x13, .pointer (some ⟨z, 0, none⟩), .int .i64 (-1), .int .i64 0, x17, x18, x19, x20, x21, x22, x23, x24, x25, x26, x27, x28, x29, x30, x31, x32, x33, x34, x35, x36, x37, x38, x39, x40, x41, x42, x43, x44, x45, x46, x47, x48, x49, x50, x51, x52, x53, x54, x55, x56, x57, x58, x59, x60, x61, x62, x63, x64, x65, x66, x67, x68, x69, x70, x71, x72, x73, x74, x75, x76, x77, x78, x79, x80, x81, x82, x83, x84, x85, x86, x87, x88, x89, x90, x91, x92, x93, x94, x95, x96, x97, x98, x99, x100, x101, x102, x103, x104, x105, x106, x107, x108, y109, y110, y111, y112, y113, y114, y115, y116, y117, y118, y119, y120, y121, y122, y123, y124, y125, x126, x127, x128, x129, x130, x131, x132, x133, x134, x135, x136, x137, x138, x139, x140, x141, x142, x143, x144, x145, x146, x147, x148, x149, x150, x151, x152, x153, x154, x155, x156, x157, x158, x159, x160, x161, x162], []⟩ w') {w : World} {F1 F2 F3 F : Option Addr} {q1 q2 q3 qc : Nat} {U : Nat} {z : Nat} (hb : Hid (Below wc.heap.size wc w)) (hy : Hid (AboveAt w U F1 C.ign ∧ AboveAt w U F2 C.defr ∧ AboveAt w U F3 C.over ∧ DealsAt w U F C.deals)) (hU : Hid (wc.heap.size ≤ U ∧ U ≤ w.heap.size)) (hz : Hid (w.heap[z]? = some (.cells #[.string ⟨#[]⟩, .string ⟨#[]⟩, .bool false, .bool false, .bool false, .slice none 0 0, .slice none 0 0, .slice none 0 0, .slice none 0 0, .bool false, .bool false] 73))) (zU : Hid (z < U)) (zB : Hid (wc.heap.size ≤ z)) :
    wpAnyH Try.prog .any r12 (NoPanic Q) (fun _ => True) 3 #[true, true, true, true, true, true, true, true, true, true, true, true, true, true, true, true, true, true, false, false, false] ⟨#[x0, x1, x2, x3, x4, x5, x6, x7, x8, x9, x10, x11, x12, x13, .pointer (some ⟨z, 0, none⟩), x15, x16, x17, x18, x19, x20, x21, x22, x23, x24, x25, x26, x27, x28, x29, x30, x31, x32, x33, x34, x35, x36, x37, x38, x39, x40, x41, x42, x43, x44, x45, x46, x47, x48, x49, x50, x51, x52, x53, x54, x55, x56, x57, x58, x59, x60, x61, x62, x63, x64, x65, x66, x67, x68, x69, x70, x71, x72, x73, x74, x75, x76, x77, x78, x79, x80, x81, x82, x83, x84, x85, x86, x87, x88, x89, x90, x91, x92, x93, x94, x95, x96, x97, x98, x99, x100, x101, x102, x103, x104, x105, x106, x107, x108, x109, x110, x111, x112, x113, x114, x115, x116, x117, x118, x119, x120, x121, x122, .agg #[.string (mk C.dir), .string (mk C.target), .bool C.fold, .bool C.dots, .bool C.adopt, .slice F1 C.ign.length q1, .slice F2 C.defr.length q2, .slice F3 C.over.length q3, .slice F C.deals.length qc, .bool C.sim, .bool C.quiet], .int .i64 (-1), .int .i64 0, x126, x127, x128, x129, x130, x131, x132, x133, x134, x135, x136, x137, x138, x139, x140, x141, x142, x143, x144, x145, x146, x147, x148, x149, x150, x151, x152, x153, x154, x155, x156, x157, x158, x159, x160, x161, x162], []⟩ w := by
  refine wpAnyH_ready (rs := [18]) (by kernel_rfl) (by simp) ?_
  obtain ⟨p18, f18, e18⟩ := o18
  refine AllReadyH.cons e18 (fun K hK => ?_) ?_
  · clear e18
    obtain ⟨g0, g1, g2, g3, g4, g5, g6, g7, g8, g9, g10⟩ := z_cells' hz.out
    obtain ⟨k0, k1, k2, k3, k4, k5, k6, k7, k8, k9, k10⟩ := z_frozen' hz.out
    go_simp
    clear g0 g1 g2 g3 g4 g5 g6 g7 g8 g9 g10 k0 k1 k2 k3 k4 k5 k6 k7 k8 k9 k10
    refine hK.out _ _ trivial (fun _ => ?_)
    clear hK K
    obtain ⟨_p, _f, e19⟩ := o19
    refine wpAnyH_take (i := 19) (v := .int .i64 (-1)) e19 (by kernel_rfl) (by kernel_rfl) (by kernel_rfl) (fun _ _ _ h => h) (Or.inl ⟨rfl, ?_⟩) trivial ?_
    · intro W' _
      clear e19
      go_simp
    simp only [Act.put, List.setIfInBounds_toArray, List.set_cons_zero, List.set_cons_succ]
    clear e19
    obtain ⟨_p, _f, e20⟩ := o20
    refine wpAnyH_take (i := 20) (v := .int .i64 0) e20 (by kernel_rfl) (by kernel_rfl) (by kernel_rfl) (fun _ _ _ h => h) (Or.inl ⟨rfl, ?_⟩) trivial ?_
    · intro W' _
      clear e20
      go_simp
    simp only [Act.put, List.setIfInBounds_toArray, List.set_cons_zero, List.set_cons_succ]
    clear e20
    refine wpAnyH_done (by kernel_rfl) ?_ _
    refine NoPanic.normal (hQ _ _ _ _ _ _ _ _ _ _ _ _ _ _ _ _ _ z _ ?_ ?_)
    · exact cmd_set hz.out zU.out hU.out.1 hy.out.1 hy.out.2.1 hy.out.2.2.1 hy.out.2.2.2
    · exact below_set11 hb.out zB.out _ _ _ _ _ _ _ _ _ _ _
  exact AllReadyH.nil

set_option maxRecDepth 100000 in
set_option maxHeartbeats 1000000 in
theorem r12_12a {x0 x1 x2 x3 x4 x5 x6 x7 x8 x9 x10 x11 x12 x13 x14 x15 x16 x17 x18 x19 x20 x21 x22 x23 x24 x25 x26 x27 x28 x29 x30 x31 x32 x33 x34 x35 x36 x37 x38 x39 x40 x41 x42 x43 x44 x45 x46 x47 x48 x49 x50 x51 x52 x53 x54 x55 x56 x57 x58 x59 x60 x61 x62 x63 x64 x65 x66 x67 x68 x69 x70 x71 x72 x73 x74 x75 x76 x77 x78 x79 x80 x81 x82 x83 x84 x85 x86 x87 x88 x89 x90 x91 x92 x93 x94 x95 x96 x97 x98 x99 x100 x101 x102 x103 x104 x105 x106 x107 x108 x109 x110 x111 x112 x113 x114 x115 x116 x117 x118 x119 x120 x121 x122 x126 x127 x128 x129 x130 x131 x132 x133 x134 x135 x136 x137 x138 x139 x140 x141 x142 x143 x144 x145 x146 x147 x148 x149 x150 x151 x152 x153 x154 x155 x156 x157 x158 x159 x160 x161 x162 : Value} {wc : World} {how : Tx} {wa wb : List Tx} {A B : Option Addr} {k m cA cB : Nat} {WM : List Tx} {C : CmdT} {Q : Exit → Act → World → Prop} (_H : R12 wc how wa wb A B k m cA cB WM C) (hQ : ∀ (y109 y110 y111 y112 y113 y114 y115 y116 y117 y118 y119 y120 y121 y122 y123 y124 y125 : Value) (z : Nat) (w' : World), CmdMem w' z wc.heap.size C → Below wc.heap.size wc w' → Q .normal ⟨#[x0, x1, x2, x3, x4, x5, x6, x7, x8, x9, x10, x11, x12, x13, .pointer (some ⟨z, 0, none⟩), .int .i64 (-1), .int .i64 0, x17, x18, x19, x20, x21, x22, x23, x24, x25, x26, x27, x28, x29, x30, x31, x32, x33, x34, x35, x36, x37, x38, x39, x40, x41, x42, x43, x44, x45, x46, x47, x48, x49, x50, x51, x52, x53, x54, x55, x56, x57, x58, x59, x60, x61, x62, x63, x64, x65, x66, x67, x68, x69, x70, x71, x72, x73, x74, x75, x76, x77, x78, x79, x80, x81, x82, x83, x84, x85, x86, x87, x88, x89, x90, x91, x92, x93, x94, x95, x96, x97, x98, x99, x100, x101, x102, x103, x104, x105, x106, x107, x108, y109, y110, y111, y112, y113, y114, y115, y116, y117, y118, y119, y120, y121, y122, y123, y124, y125, x126, x127, x128, x129, x130, x131, x132, x133, x134, x135, x136, x137, x138, x139, x140, x141, x142, x143, x144, x145, x146, x147, x148, x149, x150, x151, x152, x153, x154, x155, x156, x157, x158, x159, x160, x161, x162], []⟩ w') {w : World} {F1 F2 F3 F : Option Addr} {q1 q2 q3 qc : Nat} {U : Nat} (hb : Hid (Below wc.heap.size wc w)) (hy : Hid (AboveAt w U F1 C.ign ∧ AboveAt w U F2 C.defr ∧ AboveAt w U F3 C.over ∧ DealsAt w U F C.deals)) (hU : Hid (wc.heap.size ≤ U ∧ U ≤ w.heap.size)) :
    wpAnyH Try.prog .any r12 (NoPanic Q) (fun _ => True) 4 #[true, true, true, true, true, true, true, true, true, true, true, true, true, true, true, true, true, false, false, false, false] ⟨#[x0, x1, x2, x3, x4, x5, x6, x7, x8, x9, x10, x11, x12, x13, x14, x15, x16, x17, x18, x19, x20, x21, x22, x23, x24, x25, x26, x27, x28, x29, x30, x31, x32, x33, x34, x35, x36, x37, x38, x39, x40, x41, x42, x43, x44, x45, x46, x47, x48, x49, x50, x51, x52, x53, x54, x55, x56, x57, x58, x59, x60, x61, x62, x63, x64, x65, x66, x67, x68, x69, x70, x71, x72, x73, x74, x75, x76, x77, x78, x79, x80, x81, x82, x83, x84, x85, x86, x87, x88, x89, x90, x91, x92, x93, x94, x95, x96, x97, x98, x99, x100, x101, x102, x103, x104, x105, x106, x107, x108, x109, x110, x111, x112, x113, x114, x115, x116, x117, x118, x119, x120, x121, x122, .agg #[.string (mk C.dir), .string (mk C.target), .bool C.fold, .bool C.dots, .bool C.adopt, .slice F1 C.ign.length q1, .slice F2 C.defr.length q2, .slice F3 C.over.length q3, .slice F C.deals.length qc, .bool C.sim, .bool C.quiet], .int .i64 (-1), .int .i64 0, x126, x127, x128, x129, x130, x131, x132, x133, x134, x135, x136, x137, x138, x139, x140, x141, x142, x143, x144, x145, x146, x147, x148, x149, x150, x151, x152, x153, x154, x155, x156, x157, x158, x159, x160, x161, x162], []⟩ w := by
  refine wpAnyH_ready (rs := [17]) (by kernel_rfl) (by simp) ?_
  obtain ⟨p17, f17, e17⟩ := o17
  refine AllReadyH.cons e17 (fun K hK => ?_) AllReadyH.nil
  clear e17
  go_simp
  refine hK.out _ _ trivial (fun _ => ?_)
  clear hK K
  refine wpAnyH_ready (rs := [18]) (by kernel_rfl) (by simp) ?_
  obtain ⟨p18, f18, e18⟩ := o18
  refine AllReadyH.cons e18 (fun K hK => ?_) AllReadyH.nil
  clear e18
  go_simp
  refine hK.out _ _ trivial (fun _ => ?_)
  clear hK K
  obtain ⟨_p, _f, e19⟩ := o19
  refine wpAnyH_take (i := 19) (v := .int .i64 (-1)) e19 (by kernel_rfl) (by kernel_rfl) (by kernel_rfl) (fun _ _ _ h => h) (Or.inl ⟨rfl, ?_⟩) trivial ?_
  · intro W' _
    clear e19
    go_simp
  simp only [Act.put, List.setIfInBounds_toArray, List.set_cons_zero, List.set_cons_succ]
  clear e19
  obtain ⟨_p, _f, e20⟩ := o20
  refine wpAnyH_take (i := 20) (v := .int .i64 0) e20 (by kernel_rfl) (by kernel_rfl) (by kernel_rfl) (fun _ _ _ h => h) (Or.inl ⟨rfl, ?_⟩) trivial ?_
  · intro W' _
    clear e20
    go_simp
  simp only [Act.put, List.setIfInBounds_toArray, List.set_cons_zero, List.set_cons_succ]
  clear e20
  refine wpAnyH_done (by kernel_rfl) ?_ _
  refine NoPanic.normal (hQ _ _ _ _ _ _ _ _ _ _ _ _ _ _ _ _ _ _ _ (cmd_new hy.out.1 hy.out.2.1 hy.out.2.2.1 hy.out.2.2.2 hU.out.1) (below_on hb.out _))

set_option maxRecDepth 100000 in
set_option maxHeartbeats 1000000 in
theorem r12_11az {x0 x1 x2 x3 x4 x5 x6 x7 x8 x9 x10 x11 x12 x13 x15 x16 x17 x18 x19 x20 x21 x22 x23 x24 x25 x26 x27 x28 x29 x30 x31 x32 x33 x34 x35 x36 x37 x38 x39 x40 x41 x42 x43 x44 x45 x46 x47 x48 x49 x50 x51 x52 x53 x54 x55 x56 x57 x58 x59 x60 x61 x62 x63 x64 x65 x66 x67 x68 x69 x70 x71 x72 x73 x74 x75 x76 x77 x78 x79 x80 x81 x82 x83 x84 x85 x86 x87 x88 x89 x90 x91 x92 x93 x94 x95 x96 x97 x98 x99 x100 x101 x102 x103 x104 x105 x106 x107 x108 x109 x110 x111 x112 x114 x116 x117 x118 x119 x122 x123 x124 x125 x126 x127 x128 x129 x130 x131 x132 x133 x134 x135 x136 x137 x138 x139 x140 x141 x142 x143 x144 x145 x146 x147 x148 x149 x150 x151 x152 x153 x154 x155 x156 x157 x158 x159 x160 x161 x162 : Value} {wc : World} {how : Tx} {wa wb : List Tx} {A B : Option Addr} {k m cA cB : Nat} {WM : List Tx} {C : CmdT} {Q : Exit → Act → World → Prop} (H : R12 wc how wa wb A B k m cA cB WM C) (hQ : ∀ (y109 y110 y111 y112 y113 y114 y115 y116 y117 y118 y119 y120 y121 y122 y123 y124 y125 : Value) (z : Nat) (w' : World), CmdMem w' z wc.heap.size C → Below wc.heap.size wc w' → Q .normal ⟨#[x0, x1, x2, x3, x4, x5, x6, x7, x8, x9, x10, x11, x12, x13, .pointer (some ⟨z, 0, none⟩), .int .i64 (-1), .int .i64 0, x17, x18, x19, x20, x21, x22, x23, x24, x25, x26, x27, x28, x29, x30, x31, x32, x33, x34, x35, x36, x37, x38, x39, x40, x41, x42, x43, x44, x45, x46, x47, x48, x49, x50, x51, x52, x53, x54, x55, x56, x57, x58, x59, x60, x61, x62, x63, x64, x65, x66, x67, x68, x69, x70, x71, x72, x73, x74, x75, x76, x77, x78, x79, x80, x81, x82, x83, x84, x85, x86, x87, x88, x89, x90, x91, x92, x93, x94, x95, x96, x97, x98, x99, x100, x101, x102, x103, x104, x105, x106, x107, x108, y109, y110, y111, y112, y113, y114, y115, y116, y117, y118, y119, y120, y121, y122, y123, y124, y125, x126, x127, x128, x129, x130, x131, x132, x133, x134, x135, x136, x137, x138, x139, x140, x141, x142, x143, x144, x145, x146, x147, x148, x149, x150, x151, x152, x153, x154, x155, x156, x157, x158, x159, x160, x161, x162], []⟩ w') {w : World} {a8 : Option Addr} {c8 : Nat} {z : Nat} (hb : Hid (Below wc.heap.size wc w)) (hk : Hid (StrsAt w a8 WM ∧ WM.length ≤ c8)) (hz : Hid (w.heap[z]? = some (.cells #[.string ⟨#[]⟩, .string ⟨#[]⟩, .bool false, .bool false, .bool false, .slice none 0 0, .slice none 0 0, .slice none 0 0, .slice none 0 0, .bool false, .bool false] 73))) (zB : Hid (wc.heap.size ≤ z)) :
    wpAnyH Try.prog .any r12 (NoPanic Q) (fun _ => True) 8 #[true, true, true, true, true, true, true, true, true, true, true, true, false, false, false, false, false, true, false, false, false] ⟨#[x0, x1, x2, x3, x4, x5, x6, x7, x8, x9, x10, x11, x12, x13, .pointer (some ⟨z, 0, none⟩), x15, x16, x17, x18, x19, x20, x21, x22, x23, x24, x25, x26, x27, x28, x29, x30, x31, x32, x33, x34, x35, x36, x37, x38, x39, x40, x41, x42, x43, x44, x45, x46, x47, x48, x49, x50, x51, x52, x53, x54, x55, x56, x57, x58, x59, x60, x61, x62, x63, x64, x65, x66, x67, x68, x69, x70, x71, x72, x73, x74, x75, x76, x77, x78, x79, x80, x81, x82, x83, x84, x85, x86, x87, x88, x89, x90, x91, x92, x93, x94, x95, x96, x97, x98, x99, x100, x101, x102, x103, x104, x105, x106, x107, x108, x109, x110, x111, x112, .slice A k cA, x114, .string (mk how), x116, x117, x118, x119, .slice B m cB, .slice a8 WM.length c8, x122, x123, x124, x125, x126, x127, x128, x129, x130, x131, x132, x133, x134, x135, x136, x137, x138, x139, x140, x141, x142, x143, x144, x145, x146, x147, x148, x149, x150, x151, x152, x153, x154, x155, x156, x157, x158, x159, x160, x161, x162], []⟩ w := by
  refine wpAnyH_ready (rs := [12]) (by kernel_rfl) (by simp) ?_
  obtain ⟨t12, p12, f12, e12⟩ := o12
  refine AllReadyH.cons e12 (fun K hK => ?_) ?_
  · clear e12
    go_simp
    refine (stow_Parse a8 c8 WM _ hk.out.1 hk.out.2 (Nat.le_trans H.wt (by decide))).mono ?_
    rw [H.to]
    rintro e w9 ⟨⟨v, rfl, hcm9⟩, hb9⟩
    obtain ⟨F1, q1, F2, q2, F3, q3, F, qc, rfl, y1, y2, y3, y4⟩ := hcm9
    dsimp only
    refine hK.out _ _ trivial (fun _ => ?_)
    clear hK K
    have HY := Lib.hid (And.intro y1 (And.intro y2 (And.intro y3 y4)))
    have HB9 := Lib.hid hb9
    clear y1 y2 y3 y4 hb9
    try simp only [List.setIfInBounds_toArray, List.set_cons_zero, List.set_cons_succ]
    obtain ⟨_t, _p, _f, e13⟩ := o13
    refine wpAnyH_take (i := 13) (v := .tuple #[.agg #[.string (mk C.dir), .string (mk C.target), .bool C.fold, .bool C.dots, .bool C.adopt, .slice F1 C.ign.length q1, .slice F2 C.defr.length q2, .slice F3 C.over.length q3, .slice F C.deals.length qc, .bool C.sim, .bool C.quiet], .int .i64 (-1), .int .i64 0]) e13 (by kernel_rfl) (by kernel_rfl) (by kernel_rfl) (fun _ _ _ h => h) (Or.inl ⟨rfl, ?_⟩) trivial ?_
    · intro W' _
      clear e13
      go_simp
    simp only [Act.put, List.setIfInBounds_toArray, List.set_cons_zero, List.set_cons_succ]
    clear e13
    obtain ⟨_p, _f, e14⟩ := o14
    refine wpAnyH_take (i := 14) (v := .agg #[.string (mk C.dir), .string (mk C.target), .bool C.fold, .bool C.dots, .bool C.adopt, .slice F1 C.ign.length q1, .slice F2 C.defr.length q2, .slice F3 C.over.length q3, .slice F C.deals.length qc, .bool C.sim, .bool C.quiet]) e14 (by kernel_rfl) (by kernel_rfl) (by kernel_rfl) (fun _ _ _ h => h) (Or.inl ⟨rfl, ?_⟩) trivial ?_
    · intro W' _
      clear e14
      go_simp
    simp only [Act.put, List.setIfInBounds_toArray, List.set_cons_zero, List.set_cons_succ]
    clear e14
    obtain ⟨_p, _f, e15⟩ := o15
    refine wpAnyH_take (i := 15) (v := .int .i64 (-1)) e15 (by kernel_rfl) (by kernel_rfl) (by kernel_rfl) (fun _ _ _ h => h) (Or.inl ⟨rfl, ?_⟩) trivial ?_
    · intro W' _
      clear e15
      go_simp
    simp only [Act.put, List.setIfInBounds_toArray, List.set_cons_zero, List.set_cons_succ]
    clear e15
    obtain ⟨_p, _f, e16⟩ := o16
    refine wpAnyH_take (i := 16) (v := .int .i64 0) e16 (by kernel_rfl) (by kernel_rfl) (by kernel_rfl) (fun _ _ _ h => h) (Or.inl ⟨rfl, ?_⟩) trivial ?_
    · intro W' _
      clear e16
      go_simp
    simp only [Act.put, List.setIfInBounds_toArray, List.set_cons_zero, List.set_cons_succ]
    clear e16
    exact listed_as (by kernel_rfl) (r12_12az H hQ (w := w9) (Lib.hid (below_then hb.out hb.out.size HB9.out)) HY (Lib.hid ⟨hb.out.size, HB9.out.size⟩) (Lib.hid ((HB9.out.block _ (Array.getElem?_eq_some_iff.1 hz.out).1).trans hz.out)) (Lib.hid (Array.getElem?_eq_some_iff.1 hz.out).1) zB)
  exact AllReadyH.nil

set_option maxRecDepth 100000 in
set_option maxHeartbeats 1000000 in
theorem r12_11a {x0 x1 x2 x3 x4 x5 x6 x7 x8 x9 x10 x11 x12 x13 x14 x15 x16 x17 x18 x19 x20 x21 x22 x23 x24 x25 x26 x27 x28 x29 x30 x31 x32 x33 x34 x35 x36 x37 x38 x39 x40 x41 x42 x43 x44 x45 x46 x47 x48 x49 x50 x51 x52 x53 x54 x55 x56 x57 x58 x59 x60 x61 x62 x63 x64 x65 x66 x67 x68 x69 x70 x71 x72 x73 x74 x75 x76 x77 x78 x79 x80 x81 x82 x83 x84 x85 x86 x87 x88 x89 x90 x91 x92 x93 x94 x95 x96 x97 x98 x99 x100 x101 x102 x103 x104 x105 x106 x107 x108 x109 x110 x111 x112 x114 x116 x117 x118 x119 x122 x123 x124 x125 x126 x127 x128 x129 x130 x131 x132 x133 x134 x135 x136 x137 x138 x139 x140 x141 x142 x143 x144 x145 x146 x147 x148 x149 x150 x151 x152 x153 x154 x155 x156 x157 x158 x159 x160 x161 x162 : Value} {wc : World} {how : Tx} {wa wb : List Tx} {A B : Option Addr} {k m cA cB : Nat} {WM : List Tx} {C : CmdT} {Q : Exit → Act → World → Prop} (H : R12 wc how wa wb A B k m cA cB WM C) (hQ : ∀ (y109 y110 y111 y112 y113 y114 y115 y116 y117 y118 y119 y120 y121 y122 y123 y124 y125 : Value) (z : Nat) (w' : World), CmdMem w' z wc.heap.size C → Below wc.heap.size wc w' → Q .normal ⟨#[x0, x1, x2, x3, x4, x5, x6, x7, x8, x9, x10, x11, x12, x13, .pointer (some ⟨z, 0, none⟩), .int .i64 (-1), .int .i64 0, x17, x18, x19, x20, x21, x22, x23, x24, x25, x26, x27, x28, x29, x30, x31, x32, x33, x34, x35, x36, x37, x38, x39, x40, x41, x42, x43, x44, x45, x46, x47, x48, x49, x50, x51, x52, x53, x54, x55, x56, x57, x58, x59, x60, x61, x62, x63, x64, x65, x66, x67, x68, x69, x70, x71, x72, x73, x74, x75, x76, x77, x78, x79, x80, x81, x82, x83, x84, x85, x86, x87, x88, x89, x90, x91, x92, x93, x94, x95, x96, x97, x98, x99, x100, x101, x102, x103, x104, x105, x106, x107, x108, y109, y110, y111, y112, y113, y114, y115, y116, y117, y118, y119, y120, y121, y122, y123, y124, y125, x126, x127, x128, x129, x130, x131, x132, x133, x134, x135, x136, x137, x138, x139, x140, x141, x142, x143, x144, x145, x146, x147, x148, x149, x150, x151, x152, x153, x154, x155, x156, x157, x158, x159, x160, x161, x162], []⟩ w') {w : World} {a8 : Option Addr} {c8 : Nat} (hb : Hid (Below wc.heap.size wc w)) (hk : Hid (StrsAt w a8 WM ∧ WM.length ≤ c8)) :
    wpAnyH Try.prog .any r12 (NoPanic Q) (fun _ => True) 9 #[true, true, true, true, true, true, true, true, true, true, true, true, false, false, false, false, false, false, false, false, false] ⟨#[x0, x1, x2, x3, x4, x5, x6, x7, x8, x9, x10, x11, x12, x13, x14, x15, x16, x17, x18, x19, x20, x21, x22, x23, x24, x25, x26, x27, x28, x29, x30, x31, x32, x33, x34, x35, x36, x37, x38, x39, x40, x41, x42, x43, x44, x45, x46, x47, x48, x49, x50, x51, x52, x53, x54, x55, x56, x57, x58, x59, x60, x61, x62, x63, x64, x65, x66, x67, x68, x69, x70, x71, x72, x73, x74, x75, x76, x77, x78, x79, x80, x81, x82, x83, x84, x85, x86, x87, x88, x89, x90, x91, x92, x93, x94, x95, x96, x97, x98, x99, x100, x101, x102, x103, x104, x105, x106, x107, x108, x109, x110, x111, x112, .slice A k cA, x114, .string (mk how), x116, x117, x118, x119, .slice B m cB, .slice a8 WM.length c8, x122, x123, x124, x125, x126, x127, x128, x129, x130, x131, x132, x133, x134, x135, x136, x137, x138, x139, x140, x141, x142, x143, x144, x145, x146, x147, x148, x149, x150, x151, x152, x153, x154, x155, x156, x157, x158, x159, x160, x161, x162], []⟩ w := by
  refine wpAnyH_ready (rs := [12, 17]) (by kernel_rfl) (by simp) ?_
  obtain ⟨t12, p12, f12, e12⟩ := o12
  refine AllReadyH.cons e12 (fun K hK => ?_) ?_
  · clear e12
    go_simp
    refine (stow_Parse a8 c8 WM _ hk.out.1 hk.out.2 (Nat.le_trans H.wt (by decide))).mono ?_
    rw [H.to]
    rintro e w9 ⟨⟨v, rfl, hcm9⟩, hb9⟩
    obtain ⟨F1, q1, F2, q2, F3, q3, F, qc, rfl, y1, y2, y3, y4⟩ := hcm9
    dsimp only
    refine hK.out _ _ trivial (fun _ => ?_)
    clear hK K
    have HY := Lib.hid (And.intro y1 (And.intro y2 (And.intro y3 y4)))
    have HB9 := Lib.hid hb9
    clear y1 y2 y3 y4 hb9
    try simp only [List.setIfInBounds_toArray, List.set_cons_zero, List.set_cons_succ]
    obtain ⟨_t, _p, _f, e13⟩ := o13
    refine wpAnyH_take (i := 13) (v := .tuple #[.agg #[.string (mk C.dir), .string (mk C.target), .bool C.fold, .bool C.dots, .bool C.adopt, .slice F1 C.ign.length q1, .slice F2 C.defr.length q2, .slice F3 C.over.length q3, .slice F C.deals.length qc, .bool C.sim, .bool C.quiet], .int .i64 (-1), .int .i64 0]) e13 (by kernel_rfl) (by kernel_rfl) (by kernel_rfl) (fun _ _ _ h => h) (Or.inl ⟨rfl, ?_⟩) trivial ?_
    · intro W' _
      clear e13
      go_simp
    simp only [Act.put, List.setIfInBounds_toArray, List.set_cons_zero, List.set_cons_succ]
    clear e13
    obtain ⟨_p, _f, e14⟩ := o14
    refine wpAnyH_take (i := 14) (v := .agg #[.string (mk C.dir), .string (mk C.target), .bool C.fold, .bool C.dots, .bool C.adopt, .slice F1 C.ign.length q1, .slice F2 C.defr.length q2, .slice F3 C.over.length q3, .slice F C.deals.length qc, .bool C.sim, .bool C.quiet]) e14 (by kernel_rfl) (by kernel_rfl) (by kernel_rfl) (fun _ _ _ h => h) (Or.inl ⟨rfl, ?_⟩) trivial ?_
    · intro W' _
      clear e14
      go_simp
    simp only [Act.put, List.setIfInBounds_toArray, List.set_cons_zero, List.set_cons_succ]
    clear e14
    obtain ⟨_p, _f, e15⟩ := o15
    refine wpAnyH_take (i := 15) (v := .int .i64 (-1)) e15 (by kernel_rfl) (by kernel_rfl) (by kernel_rfl) (fun _ _ _ h => h) (Or.inl ⟨rfl, ?_⟩) trivial ?_
    · intro W' _
      clear e15
      go_simp
    simp only [Act.put, List.setIfInBounds_toArray, List.set_cons_zero, List.set_cons_succ]
    clear e15
    obtain ⟨_p, _f, e16⟩ := o16
    refine wpAnyH_take (i := 16) (v := .int .i64 0) e16 (by kernel_rfl) (by kernel_rfl) (by kernel_rfl) (fun _ _ _ h => h) (Or.inl ⟨rfl, ?_⟩) trivial ?_
    · intro W' _
      clear e16
      go_simp
    simp only [Act.put, List.setIfInBounds_toArray, List.set_cons_zero, List.set_cons_succ]
    clear e16
    exact listed_as (by kernel_rfl) (r12_12a H hQ (w := w9) (Lib.hid (below_then hb.out hb.out.size HB9.out)) HY (Lib.hid ⟨hb.out.size, HB9.out.size⟩))
  obtain ⟨p17, f17, e17⟩ := o17
  refine AllReadyH.cons e17 (fun K hK => ?_) ?_
  · clear e17
    go_simp
    refine hK.out _ _ trivial (fun _ => ?_)
    clear hK K
    exact listed_as (by kernel_rfl) (r12_11az H hQ (w := w.alloc (.cells #[.string ⟨#[]⟩, .string ⟨#[]⟩, .bool false, .bool false, .bool false, .slice none 0 0, .slice none 0 0, .slice none 0 0, .slice none 0 0, .bool false, .bool false] 73)) (Lib.hid (below_on hb.out _)) (Lib.hid ⟨hk.out.1.below ((Below.refl _ _).alloc (Nat.le_refl _) _), hk.out.2⟩) (Lib.hid (heap_alloc_new _ _)) (Lib.hid hb.out.size))
  exact AllReadyH.nil

set_option maxRecDepth 100000 in
set_option maxHeartbeats 1000000 in
theorem r12_7az {x0 x1 x2 x3 x4 x5 x6 x7 x8 x9 x10 x11 x12 x13 x15 x16 x17 x18 x19 x20 x21 x22 x23 x24 x25 x26 x27 x28 x29 x30 x31 x32 x33 x34 x35 x36 x37 x38 x39 x40 x41 x42 x43 x44 x45 x46 x47 x48 x49 x50 x51 x52 x53 x54 x55 x56 x57 x58 x59 x60 x61 x62 x63 x64 x65 x66 x67 x68 x69 x70 x71 x72 x73 x74 x75 x76 x77 x78 x79 x80 x81 x82 x83 x84 x85 x86 x87 x88 x89 x90 x91 x92 x93 x94 x95 x96 x97 x98 x99 x100 x101 x102 x103 x104 x105 x106 x107 x108 x109 x110 x111 x112 x114 x116 x118 x119 x121 x122 x123 x124 x125 x126 x127 x128 x129 x130 x131 x132 x133 x134 x135 x136 x137 x138 x139 x140 x141 x142 x143 x144 x145 x146 x147 x148 x149 x150 x151 x152 x153 x154 x155 x156 x157 x158 x159 x160 x161 x162 : Value} {wc : World} {how : Tx} {wa wb : List Tx} {A B : Option Addr} {k m cA cB : Nat} {WM : List Tx} {C : CmdT} {Q : Exit → Act → World → Prop} (H : R12 wc how wa wb A B k m cA cB WM C) (hQ : ∀ (y109 y110 y111 y112 y113 y114 y115 y116 y117 y118 y119 y120 y121 y122 y123 y124 y125 : Value) (z : Nat) (w' : World), CmdMem w' z wc.heap.size C → Below wc.heap.size wc w' → Q .normal ⟨#[x0, x1, x2, x3, x4, x5, x6, x7, x8, x9, x10, x11, x12, x13, .pointer (some ⟨z, 0, none⟩), .int .i64 (-1), .int .i64 0, x17, x18, x19, x20, x21, x22, x23, x24, x25, x26, x27, x28, x29, x30, x31, x32, x33, x34, x35, x36, x37, x38, x39, x40, x41, x42, x43, x44, x45, x46, x47, x48, x49, x50, x51, x52, x53, x54, x55, x56, x57, x58, x59, x60, x61, x62, x63, x64, x65, x66, x67, x68, x69, x70, x71, x72, x73, x74, x75, x76, x77, x78, x79, x80, x81, x82, x83, x84, x85, x86, x87, x88, x89, x90, x91, x92, x93, x94, x95, x96, x97, x98, x99, x100, x101, x102, x103, x104, x105, x106, x107, x108, y109, y110, y111, y112, y113, y114, y115, y116, y117, y118, y119, y120, y121, y122, y123, y124, y125, x126, x127, x128, x129, x130, x131, x132, x133, x134, x135, x136, x137, x138, x139, x140, x141, x142, x143, x144, x145, x146, x147, x148, x149, x150, x151, x152, x153, x154, x155, x156, x157, x158, x159, x160, x161, x162], []⟩ w') {w : World} {v2 : Value} {z : Nat} (hb : Hid (Below wc.heap.size wc w)) (ho : Hid (w.ownsRow wc.heap.size 9 1 v2 (0 + k + 1) (([] ++ wa ++ [how]).map fun x => .string (mk x)))) (hz : Hid (Safe z (.cells #[.string ⟨#[]⟩, .string ⟨#[]⟩, .bool false, .bool false, .bool false, .slice none 0 0, .slice none 0 0, .slice none 0 0, .slice none 0 0, .bool false, .bool false] 73) w v2)) (zB : Hid (wc.heap.size ≤ z)) :
    wpAnyH Try.prog .any r12 (NoPanic Q) (fun _ => True) 9 #[true, true, true, true, true, true, true, true, true, true, true, false, false, false, false, false, false, true, false, false, false] ⟨#[x0, x1, x2, x3, x4, x5, x6, x7, x8, x9, x10, x11, x12, x13, .pointer (some ⟨z, 0, none⟩), x15, x16, x17, x18, x19, x20, x21, x22, x23, x24, x25, x26, x27, x28, x29, x30, x31, x32, x33, x34, x35, x36, x37, x38, x39, x40, x41, x42, x43, x44, x45, x46, x47, x48, x49, x50, x51, x52, x53, x54, x55, x56, x57, x58, x59, x60, x61, x62, x63, x64, x65, x66, x67, x68, x69, x70, x71, x72, x73, x74, x75, x76, x77, x78, x79, x80, x81, x82, x83, x84, x85, x86, x87, x88, x89, x90, x91, x92, x93, x94, x95, x96, x97, x98, x99, x100, x101, x102, x103, x104, x105, x106, x107, x108, x109, x110, x111, x112, .slice A k cA, x114, .string (mk how), x116, v2, x118, x119, .slice B m cB, x121, x122, x123, x124, x125, x126, x127, x128, x129, x130, x131, x132, x133, x134, x135, x136, x137, x138, x139, x140, x141, x142, x143, x144, x145, x146, x147, x148, x149, x150, x151, x152, x153, x154, x155, x156, x157, x158, x159, x160, x161, x162], []⟩ w := by
  refine wpAnyH_ready (rs := [11]) (by kernel_rfl) (by simp) ?_
  obtain ⟨p11, f11, e11⟩ := o11
  refine AllReadyH.cons e11 (fun K hK => ?_) ?_
  · clear e11
    refine step_append_strs (w0 := wc) wc.heap.size rfl _ _ rfl v2 (0 + k + 1) m ([] ++ wa ++ [how]) wb rfl _ _ rfl H.lb (H.sb.below hb.out) ho.out hb.out hb.out.size H.b3 ?_
    intro v w1 ho1 hb1 hs1
    refine hK.out _ _ trivial (fun _ => ?_)
    clear hK K
    rw [H.eq] at ho1
    obtain ⟨a8, c8, rfl, k8, hc8, _⟩ := StrsAt.own ho1
    simp only [Act.put, List.setIfInBounds_toArray, List.set_cons_zero, List.set_cons_succ]
    exact listed_as (by kernel_rfl) (r12_11az H hQ (w := w1) (Lib.hid hb1) (Lib.hid ⟨k8, hc8⟩) (Lib.hid ((hs1 _ _ hz.out).1)) zB)
  exact AllReadyH.nil

set_option maxRecDepth 100000 in
set_option maxHeartbeats 1000000 in
theorem r12_7a {x0 x1 x2 x3 x4 x5 x6 x7 x8 x9 x10 x11 x12 x13 x14 x15 x16 x17 x18 x19 x20 x21 x22 x23 x24 x25 x26 x27 x28 x29 x30 x31 x32 x33 x34 x35 x36 x37 x38 x39 x40 x41 x42 x43 x44 x45 x46 x47 x48 x49 x50 x51 x52 x53 x54 x55 x56 x57 x58 x59 x60 x61 x62 x63 x64 x65 x66 x67 x68 x69 x70 x71 x72 x73 x74 x75 x76 x77 x78 x79 x80 x81 x82 x83 x84 x85 x86 x87 x88 x89 x90 x91 x92 x93 x94 x95 x96 x97 x98 x99 x100 x101 x102 x103 x104 x105 x106 x107 x108 x109 x110 x111 x112 x114 x116 x118 x119 x121 x122 x123 x124 x125 x126 x127 x128 x129 x130 x131 x132 x133 x134 x135 x136 x137 x138 x139 x140 x141 x142 x143 x144 x145 x146 x147 x148 x149 x150 x151 x152 x153 x154 x155 x156 x157 x158 x159 x160 x161 x162 : Value} {wc : World} {how : Tx} {wa wb : List Tx} {A B : Option Addr} {k m cA cB : Nat} {WM : List Tx} {C : CmdT} {Q : Exit → Act → World → Prop} (H : R12 wc how wa wb A B k m cA cB WM C) (hQ : ∀ (y109 y110 y111 y112 y113 y114 y115 y116 y117 y118 y119 y120 y121 y122 y123 y124 y125 : Value) (z : Nat) (w' : World), CmdMem w' z wc.heap.size C → Below wc.heap.size wc w' → Q .normal ⟨#[x0, x1, x2, x3, x4, x5, x6, x7, x8, x9, x10, x11, x12, x13, .pointer (some ⟨z, 0, none⟩), .int .i64 (-1), .int .i64 0, x17, x18, x19, x20, x21, x22, x23, x24, x25, x26, x27, x28, x29, x30, x31, x32, x33, x34, x35, x36, x37, x38, x39, x40, x41, x42, x43, x44, x45, x46, x47, x48, x49, x50, x51, x52, x53, x54, x55, x56, x57, x58, x59, x60, x61, x62, x63, x64, x65, x66, x67, x68, x69, x70, x71, x72, x73, x74, x75, x76, x77, x78, x79, x80, x81, x82, x83, x84, x85, x86, x87, x88, x89, x90, x91, x92, x93, x94, x95, x96, x97, x98, x99, x100, x101, x102, x103, x104, x105, x106, x107, x108, y109, y110, y111, y112, y113, y114, y115, y116, y117, y118, y119, y120, y121, y122, y123, y124, y125, x126, x127, x128, x129, x130, x131, x132, x133, x134, x135, x136, x137, x138, x139, x140, x141, x142, x143, x144, x145, x146, x147, x148, x149, x150, x151, x152, x153, x154, x155, x156, x157, x158, x159, x160, x161, x162], []⟩ w') {w : World} {v2 : Value} (hb : Hid (Below wc.heap.size wc w)) (ho : Hid (w.ownsRow wc.heap.size 9 1 v2 (0 + k + 1) (([] ++ wa ++ [how]).map fun x => .string (mk x)))) :
    wpAnyH Try.prog .any r12 (NoPanic Q) (fun _ => True) 10 #[true, true, true, true, true, true, true, true, true, true, true, false, false, false, false, false, false, false, false, false, false] ⟨#[x0, x1, x2, x3, x4, x5, x6, x7, x8, x9, x10, x11, x12, x13, x14, x15, x16, x17, x18, x19, x20, x21, x22, x23, x24, x25, x26, x27, x28, x29, x30, x31, x32, x33, x34, x35, x36, x37, x38, x39, x40, x41, x42, x43, x44, x45, x46, x47, x48, x49, x50, x51, x52, x53, x54, x55, x56, x57, x58, x59, x60, x61, x62, x63, x64, x65, x66, x67, x68, x69, x70, x71, x72, x73, x74, x75, x76, x77, x78, x79, x80, x81, x82, x83, x84, x85, x86, x87, x88, x89, x90, x91, x92, x93, x94, x95, x96, x97, x98, x99, x100, x101, x102, x103, x104, x105, x106, x107, x108, x109, x110, x111, x112, .slice A k cA, x114, .string (mk how), x116, v2, x118, x119, .slice B m cB, x121, x122, x123, x124, x125, x126, x127, x128, x129, x130, x131, x132, x133, x134, x135, x136, x137, x138, x139, x140, x141, x142, x143, x144, x145, x146, x147, x148, x149, x150, x151, x152, x153, x154, x155, x156, x157, x158, x159, x160, x161, x162], []⟩ w := by
  refine wpAnyH_ready (rs := [11, 17]) (by kernel_rfl) (by simp) ?_
  obtain ⟨p11, f11, e11⟩ := o11
  refine AllReadyH.cons e11 (fun K hK => ?_) ?_
  · clear e11
    refine step_append_strs (w0 := wc) wc.heap.size rfl _ _ rfl v2 (0 + k + 1) m ([] ++ wa ++ [how]) wb rfl _ _ rfl H.lb (H.sb.below hb.out) ho.out hb.out hb.out.size H.b3 ?_
    intro v w1 ho1 hb1 hs1
    refine hK.out _ _ trivial (fun _ => ?_)
    clear hK K
    rw [H.eq] at ho1
    obtain ⟨a8, c8, rfl, k8, hc8, _⟩ := StrsAt.own ho1
    simp only [Act.put, List.setIfInBounds_toArray, List.set_cons_zero, List.set_cons_succ]
    exact listed_as (by kernel_rfl) (r12_11a H hQ (w := w1) (Lib.hid hb1) (Lib.hid ⟨k8, hc8⟩))
  obtain ⟨p17, f17, e17⟩ := o17
  refine AllReadyH.cons e17 (fun K hK => ?_) ?_
  · clear e17
    go_simp
    refine hK.out _ _ trivial (fun _ => ?_)
    clear hK K
    exact listed_as (by kernel_rfl) (r12_7az H hQ (w := w.alloc (.cells #[.string ⟨#[]⟩, .string ⟨#[]⟩, .bool false, .bool false, .bool false, .slice none 0 0, .slice none 0 0, .slice none 0 0, .slice none 0 0, .bool false, .bool false] 73)) (Lib.hid (below_on hb.out _)) (Lib.hid (ho.out.alloc _)) (Lib.hid (Safe.new _ ho.out)) (Lib.hid hb.out.size))
  exact AllReadyH.nil

set_option maxRecDepth 100000 in
set_option maxHeartbeats 1000000 in
theorem r12_4az {x0 x1 x2 x3 x4 x5 x6 x7 x8 x9 x10 x11 x12 x13 x15 x16 x17 x18 x19 x20 x21 x22 x23 x24 x25 x26 x27 x28 x29 x30 x31 x32 x33 x34 x35 x36 x37 x38 x39 x40 x41 x42 x43 x44 x45 x46 x47 x48 x49 x50 x51 x52 x53 x54 x55 x56 x57 x58 x59 x60 x61 x62 x63 x64 x65 x66 x67 x68 x69 x70 x71 x72 x73 x74 x75 x76 x77 x78 x79 x80 x81 x82 x83 x84 x85 x86 x87 x88 x89 x90 x91 x92 x93 x94 x95 x96 x97 x98 x99 x100 x101 x102 x103 x104 x105 x106 x107 x108 x109 x110 x111 x112 x117 x118 x119 x121 x122 x123 x124 x125 x126 x127 x128 x129 x130 x131 x132 x133 x134 x135 x136 x137 x138 x139 x140 x141 x142 x143 x144 x145 x146 x147 x148 x149 x150 x151 x152 x153 x154 x155 x156 x157 x158 x159 x160 x161 x162 : Value} {wc : World} {how : Tx} {wa wb : List Tx} {A B : Option Addr} {k m cA cB : Nat} {WM : List Tx} {C : CmdT} {Q : Exit → Act → World → Prop} (H : R12 wc how wa wb A B k m cA cB WM C) (hQ : ∀ (y109 y110 y111 y112 y113 y114 y115 y116 y117 y118 y119 y120 y121 y122 y123 y124 y125 : Value) (z : Nat) (w' : World), CmdMem w' z wc.heap.size C → Below wc.heap.size wc w' → Q .normal ⟨#[x0, x1, x2, x3, x4, x5, x6, x7, x8, x9, x10, x11, x12, x13, .pointer (some ⟨z, 0, none⟩), .int .i64 (-1), .int .i64 0, x17, x18, x19, x20, x21, x22, x23, x24, x25, x26, x27, x28, x29, x30, x31, x32, x33, x34, x35, x36, x37, x38, x39, x40, x41, x42, x43, x44, x45, x46, x47, x48, x49, x50, x51, x52, x53, x54, x55, x56, x57, x58, x59, x60, x61, x62, x63, x64, x65, x66, x67, x68, x69, x70, x71, x72, x73, x74, x75, x76, x77, x78, x79, x80, x81, x82, x83, x84, x85, x86, x87, x88, x89, x90, x91, x92, x93, x94, x95, x96, x97, x98, x99, x100, x101, x102, x103, x104, x105, x106, x107, x108, y109, y110, y111, y112, y113, y114, y115, y116, y117, y118, y119, y120, y121, y122, y123, y124, y125, x126, x127, x128, x129, x130, x131, x132, x133, x134, x135, x136, x137, x138, x139, x140, x141, x142, x143, x144, x145, x146, x147, x148, x149, x150, x151, x152, x153, x154, x155, x156, x157, x158, x159, x160, x161, x162], []⟩ w') {w : World} {v1 : Value} {h : Nat} {z : Nat} (hb : Hid (Below wc.heap.size wc w)) (ho : Hid (w.ownsRow wc.heap.size 9 1 v1 (0 + k) (([] ++ wa).map fun x => .string (mk x)))) (hh : Hid (Safe h (.cells #[.string (mk how)] 9) w v1)) (hz : Hid (Safe z (.cells #[.string ⟨#[]⟩, .string ⟨#[]⟩, .bool false, .bool false, .bool false, .slice none 0 0, .slice none 0 0, .slice none 0 0, .slice none 0 0, .bool false, .bool false] 73) w v1)) (zB : Hid (wc.heap.size ≤ z)) :
    wpAnyH Try.prog .any r12 (NoPanic Q) (fun _ => True) 10 #[true, true, true, true, true, true, true, false, true, true, true, false, false, false, false, false, false, true, false, false, false] ⟨#[x0, x1, x2, x3, x4, x5, x6, x7, x8, x9, x10, x11, x12, x13, .pointer (some ⟨z, 0, none⟩), x15, x16, x17, x18, x19, x20, x21, x22, x23, x24, x25, x26, x27, x28, x29, x30, x31, x32, x33, x34, x35, x36, x37, x38, x39, x40, x41, x42, x43, x44, x45, x46, x47, x48, x49, x50, x51, x52, x53, x54, x55, x56, x57, x58, x59, x60, x61, x62, x63, x64, x65, x66, x67, x68, x69, x70, x71, x72, x73, x74, x75, x76, x77, x78, x79, x80, x81, x82, x83, x84, x85, x86, x87, x88, x89, x90, x91, x92, x93, x94, x95, x96, x97, x98, x99, x100, x101, x102, x103, x104, x105, x106, x107, x108, x109, x110, x111, x112, .slice A k cA, v1, .string (mk how), .slice (some ⟨h, 0, none⟩) 1 1, x117, x118, x119, .slice B m cB, x121, x122, x123, x124, x125, x126, x127, x128, x129, x130, x131, x132, x133, x134, x135, x136, x137, x138, x139, x140, x141, x142, x143, x144, x145, x146, x147, x148, x149, x150, x151, x152, x153, x154, x155, x156, x157, x158, x159, x160, x161, x162], []⟩ w := by
  refine wpAnyH_ready (rs := [7]) (by kernel_rfl) (by simp) ?_
  obtain ⟨p7, f7, e7⟩ := o7
  refine AllReadyH.cons e7 (fun K hK => ?_) ?_
  · clear e7
    refine step_append_strs (w0 := wc) wc.heap.size rfl _ _ rfl v1 (0 + k) 1 ([] ++ wa) [how] rfl _ _ rfl rfl (Safe.strs (xs := [how]) (t := 9) (v := v1) hh.out) ho.out hb.out hb.out.size H.b2 ?_
    intro v w1 ho1 hb1 hs1
    refine hK.out _ _ trivial (fun _ => ?_)
    clear hK K
    simp only [Act.put, List.setIfInBounds_toArray, List.set_cons_zero, List.set_cons_succ]
    exact listed_as (by kernel_rfl) (r12_7az H hQ (w := w1) (Lib.hid hb1) (Lib.hid ho1) (Lib.hid (hs1 _ _ hz.out)) zB)
  exact AllReadyH.nil

set_option maxRecDepth 100000 in
set_option maxHeartbeats 1000000 in
theorem r12_4a {x0 x1 x2 x3 x4 x5 x6 x7 x8 x9 x10 x11 x12 x13 x14 x15 x16 x17 x18 x19 x20 x21 x22 x23 x24 x25 x26 x27 x28 x29 x30 x31 x32 x33 x34 x35 x36 x37 x38 x39 x40 x41 x42 x43 x44 x45 x46 x47 x48 x49 x50 x51 x52 x53 x54 x55 x56 x57 x58 x59 x60 x61 x62 x63 x64 x65 x66 x67 x68 x69 x70 x71 x72 x73 x74 x75 x76 x77 x78 x79 x80 x81 x82 x83 x84 x85 x86 x87 x88 x89 x90 x91 x92 x93 x94 x95 x96 x97 x98 x99 x100 x101 x102 x103 x104 x105 x106 x107 x108 x109 x110 x111 x112 x117 x118 x119 x121 x122 x123 x124 x125 x126 x127 x128 x129 x130 x131 x132 x133 x134 x135 x136 x137 x138 x139 x140 x141 x142 x143 x144 x145 x146 x147 x148 x149 x150 x151 x152 x153 x154 x155 x156 x157 x158 x159 x160 x161 x162 : Value} {wc : World} {how : Tx} {wa wb : List Tx} {A B : Option Addr} {k m cA cB : Nat} {WM : List Tx} {C : CmdT} {Q : Exit → Act → World → Prop} (H : R12 wc how wa wb A B k m cA cB WM C) (hQ : ∀ (y109 y110 y111 y112 y113 y114 y115 y116 y117 y118 y119 y120 y121 y122 y123 y124 y125 : Value) (z : Nat) (w' : World), CmdMem w' z wc.heap.size C → Below wc.heap.size wc w' → Q .normal ⟨#[x0, x1, x2, x3, x4, x5, x6, x7, x8, x9, x10, x11, x12, x13, .pointer (some ⟨z, 0, none⟩), .int .i64 (-1), .int .i64 0, x17, x18, x19, x20, x21, x22, x23, x24, x25, x26, x27, x28, x29, x30, x31, x32, x33, x34, x35, x36, x37, x38, x39, x40, x41, x42, x43, x44, x45, x46, x47, x48, x49, x50, x51, x52, x53, x54, x55, x56, x57, x58, x59, x60, x61, x62, x63, x64, x65, x66, x67, x68, x69, x70, x71, x72, x73, x74, x75, x76, x77, x78, x79, x80, x81, x82, x83, x84, x85, x86, x87, x88, x89, x90, x91, x92, x93, x94, x95, x96, x97, x98, x99, x100, x101, x102, x103, x104, x105, x106, x107, x108, y109, y110, y111, y112, y113, y114, y115, y116, y117, y118, y119, y120, y121, y122, y123, y124, y125, x126, x127, x128, x129, x130, x131, x132, x133, x134, x135, x136, x137, x138, x139, x140, x141, x142, x143, x144, x145, x146, x147, x148, x149, x150, x151, x152, x153, x154, x155, x156, x157, x158, x159, x160, x161, x162], []⟩ w') {w : World} {v1 : Value} {h : Nat} (hb : Hid (Below wc.heap.size wc w)) (ho : Hid (w.ownsRow wc.heap.size 9 1 v1 (0 + k) (([] ++ wa).map fun x => .string (mk x)))) (hh : Hid (Safe h (.cells #[.string (mk how)] 9) w v1)) :
    wpAnyH Try.prog .any r12 (NoPanic Q) (fun _ => True) 11 #[true, true, true, true, true, true, true, false, true, true, true, false, false, false, false, false, false, false, false, false, false] ⟨#[x0, x1, x2, x3, x4, x5, x6, x7, x8, x9, x10, x11, x12, x13, x14, x15, x16, x17, x18, x19, x20, x21, x22, x23, x24, x25, x26, x27, x28, x29, x30, x31, x32, x33, x34, x35, x36, x37, x38, x39, x40, x41, x42, x43, x44, x45, x46, x47, x48, x49, x50, x51, x52, x53, x54, x55, x56, x57, x58, x59, x60, x61, x62, x63, x64, x65, x66, x67, x68, x69, x70, x71, x72, x73, x74, x75, x76, x77, x78, x79, x80, x81, x82, x83, x84, x85, x86, x87, x88, x89, x90, x91, x92, x93, x94, x95, x96, x97, x98, x99, x100, x101, x102, x103, x104, x105, x106, x107, x108, x109, x110, x111, x112, .slice A k cA, v1, .string (mk how), .slice (some ⟨h, 0, none⟩) 1 1, x117, x118, x119, .slice B m cB, x121, x122, x123, x124, x125, x126, x127, x128, x129, x130, x131, x132, x133, x134, x135, x136, x137, x138, x139, x140, x141, x142, x143, x144, x145, x146, x147, x148, x149, x150, x151, x152, x153, x154, x155, x156, x157, x158, x159, x160, x161, x162], []⟩ w := by
  refine wpAnyH_ready (rs := [7, 17]) (by kernel_rfl) (by simp) ?_
  obtain ⟨p7, f7, e7⟩ := o7
  refine AllReadyH.cons e7 (fun K hK => ?_) ?_
  · clear e7
    refine step_append_strs (w0 := wc) wc.heap.size rfl _ _ rfl v1 (0 + k) 1 ([] ++ wa) [how] rfl _ _ rfl rfl (Safe.strs (xs := [how]) (t := 9) (v := v1) hh.out) ho.out hb.out hb.out.size H.b2 ?_
    intro v w1 ho1 hb1 hs1
    refine hK.out _ _ trivial (fun _ => ?_)
    clear hK K
    simp only [Act.put, List.setIfInBounds_toArray, List.set_cons_zero, List.set_cons_succ]
    exact listed_as (by kernel_rfl) (r12_7a H hQ (w := w1) (Lib.hid hb1) (Lib.hid ho1))
  obtain ⟨p17, f17, e17⟩ := o17
  refine AllReadyH.cons e17 (fun K hK => ?_) ?_
  · clear e17
    go_simp
    refine hK.out _ _ trivial (fun _ => ?_)
    clear hK K
    exact listed_as (by kernel_rfl) (r12_4az H hQ (w := w.alloc (.cells #[.string ⟨#[]⟩, .string ⟨#[]⟩, .bool false, .bool false, .bool false, .slice none 0 0, .slice none 0 0, .slice none 0 0, .slice none 0 0, .bool false, .bool false] 73)) (Lib.hid (below_on hb.out _)) (Lib.hid (ho.out.alloc _)) (Lib.hid (hh.out.alloc _)) (Lib.hid (Safe.new _ ho.out)) (Lib.hid hb.out.size))
  exact AllReadyH.nil

set_option maxRecDepth 100000 in
set_option maxHeartbeats 1000000 in
theorem r12_4z {x0 x1 x2 x3 x4 x5 x6 x7 x8 x9 x10 x11 x12 x13 x15 x16 x17 x18 x19 x20 x21 x22 x23 x24 x25 x26 x27 x28 x29 x30 x31 x32 x33 x34 x35 x36 x37 x38 x39 x40 x41 x42 x43 x44 x45 x46 x47 x48 x49 x50 x51 x52 x53 x54 x55 x56 x57 x58 x59 x60 x61 x62 x63 x64 x65 x66 x67 x68 x69 x70 x71 x72 x73 x74 x75 x76 x77 x78 x79 x80 x81 x82 x83 x84 x85 x86 x87 x88 x89 x90 x91 x92 x93 x94 x95 x96 x97 x98 x99 x100 x101 x102 x103 x104 x105 x106 x107 x108 x109 x110 x111 x112 x116 x117 x118 x119 x121 x122 x123 x124 x125 x126 x127 x128 x129 x130 x131 x132 x133 x134 x135 x136 x137 x138 x139 x140 x141 x142 x143 x144 x145 x146 x147 x148 x149 x150 x151 x152 x153 x154 x155 x156 x157 x158 x159 x160 x161 x162 : Value} {wc : World} {how : Tx} {wa wb : List Tx} {A B : Option Addr} {k m cA cB : Nat} {WM : List Tx} {C : CmdT} {Q : Exit → Act → World → Prop} (H : R12 wc how wa wb A B k m cA cB WM C) (hQ : ∀ (y109 y110 y111 y112 y113 y114 y115 y116 y117 y118 y119 y120 y121 y122 y123 y124 y125 : Value) (z : Nat) (w' : World), CmdMem w' z wc.heap.size C → Below wc.heap.size wc w' → Q .normal ⟨#[x0, x1, x2, x3, x4, x5, x6, x7, x8, x9, x10, x11, x12, x13, .pointer (some ⟨z, 0, none⟩), .int .i64 (-1), .int .i64 0, x17, x18, x19, x20, x21, x22, x23, x24, x25, x26, x27, x28, x29, x30, x31, x32, x33, x34, x35, x36, x37, x38, x39, x40, x41, x42, x43, x44, x45, x46, x47, x48, x49, x50, x51, x52, x53, x54, x55, x56, x57, x58, x59, x60, x61, x62, x63, x64, x65, x66, x67, x68, x69, x70, x71, x72, x73, x74, x75, x76, x77, x78, x79, x80, x81, x82, x83, x84, x85, x86, x87, x88, x89, x90, x91, x92, x93, x94, x95, x96, x97, x98, x99, x100, x101, x102, x103, x104, x105, x106, x107, x108, y109, y110, y111, y112, y113, y114, y115, y116, y117, y118, y119, y120, y121, y122, y123, y124, y125, x126, x127, x128, x129, x130, x131, x132, x133, x134, x135, x136, x137, x138, x139, x140, x141, x142, x143, x144, x145, x146, x147, x148, x149, x150, x151, x152, x153, x154, x155, x156, x157, x158, x159, x160, x161, x162], []⟩ w') {w : World} {v1 : Value} {z : Nat} (hb : Hid (Below wc.heap.size wc w)) (ho : Hid (w.ownsRow wc.heap.size 9 1 v1 (0 + k) (([] ++ wa).map fun x => .string (mk x)))) (hz : Hid (Safe z (.cells #[.string ⟨#[]⟩, .string ⟨#[]⟩, .bool false, .bool false, .bool false, .slice none 0 0, .slice none 0 0, .slice none 0 0, .slice none 0 0, .bool false, .bool false] 73) w v1)) (zB : Hid (wc.heap.size ≤ z)) :
    wpAnyH Try.prog .any r12 (NoPanic Q) (fun _ => True) 11 #[true, true, true, true, true, true, false, false, true, true, true, false, false, false, false, false, false, true, false, false, false] ⟨#[x0, x1, x2, x3, x4, x5, x6, x7, x8, x9, x10, x11, x12, x13, .pointer (some ⟨z, 0, none⟩), x15, x16, x17, x18, x19, x20, x21, x22, x23, x24, x25, x26, x27, x28, x29, x30, x31, x32, x33, x34, x35, x36, x37, x38, x39, x40, x41, x42, x43, x44, x45, x46, x47, x48, x49, x50, x51, x52, x53, x54, x55, x56, x57, x58, x59, x60, x61, x62, x63, x64, x65, x66, x67, x68, x69, x70, x71, x72, x73, x74, x75, x76, x77, x78, x79, x80, x81, x82, x83, x84, x85, x86, x87, x88, x89, x90, x91, x92, x93, x94, x95, x96, x97, x98, x99, x100, x101, x102, x103, x104, x105, x106, x107, x108, x109, x110, x111, x112, .slice A k cA, v1, .string (mk how), x116, x117, x118, x119, .slice B m cB, x121, x122, x123, x124, x125, x126, x127, x128, x129, x130, x131, x132, x133, x134, x135, x136, x137, x138, x139, x140, x141, x142, x143, x144, x145, x146, x147, x148, x149, x150, x151, x152, x153, x154, x155, x156, x157, x158, x159, x160, x161, x162], []⟩ w := by
  refine wpAnyH_ready (rs := [6]) (by kernel_rfl) (by simp) ?_
  obtain ⟨p6, f6, e6⟩ := o6
  refine AllReadyH.cons e6 (fun K hK => ?_) ?_
  · clear e6
    go_simp
    refine hK.out _ _ trivial (fun _ => ?_)
    clear hK K
    exact listed_as (by kernel_rfl) (r12_4az H hQ (w := w.alloc (.cells #[.string (mk how)] 9)) (Lib.hid (below_on hb.out _)) (Lib.hid (ho.out.alloc _)) (Lib.hid (Safe.new _ ho.out)) (Lib.hid (hz.out.alloc _)) zB)
  exact AllReadyH.nil

set_option maxRecDepth 100000 in
set_option maxHeartbeats 1000000 in
theorem r12_4 {x0 x1 x2 x3 x4 x5 x6 x7 x8 x9 x10 x11 x12 x13 x14 x15 x16 x17 x18 x19 x20 x21 x22 x23 x24 x25 x26 x27 x28 x29 x30 x31 x32 x33 x34 x35 x36 x37 x38 x39 x40 x41 x42 x43 x44 x45 x46 x47 x48 x49 x50 x51 x52 x53 x54 x55 x56 x57 x58 x59 x60 x61 x62 x63 x64 x65 x66 x67 x68 x69 x70 x71 x72 x73 x74 x75 x76 x77 x78 x79 x80 x81 x82 x83 x84 x85 x86 x87 x88 x89 x90 x91 x92 x93 x94 x95 x96 x97 x98 x99 x100 x101 x102 x103 x104 x105 x106 x107 x108 x109 x110 x111 x112 x116 x117 x118 x119 x121 x122 x123 x124 x125 x126 x127 x128 x129 x130 x131 x132 x133 x134 x135 x136 x137 x138 x139 x140 x141 x142 x143 x144 x145 x146 x147 x148 x149 x150 x151 x152 x153 x154 x155 x156 x157 x158 x159 x160 x161 x162 : Value} {wc : World} {how : Tx} {wa wb : List Tx} {A B : Option Addr} {k m cA cB : Nat} {WM : List Tx} {C : CmdT} {Q : Exit → Act → World → Prop} (H : R12 wc how wa wb A B k m cA cB WM C) (hQ : ∀ (y109 y110 y111 y112 y113 y114 y115 y116 y117 y118 y119 y120 y121 y122 y123 y124 y125 : Value) (z : Nat) (w' : World), CmdMem w' z wc.heap.size C → Below wc.heap.size wc w' → Q .normal ⟨#[x0, x1, x2, x3, x4, x5, x6, x7, x8, x9, x10, x11, x12, x13, .pointer (some ⟨z, 0, none⟩), .int .i64 (-1), .int .i64 0, x17, x18, x19, x20, x21, x22, x23, x24, x25, x26, x27, x28, x29, x30, x31, x32, x33, x34, x35, x36, x37, x38, x39, x40, x41, x42, x43, x44, x45, x46, x47, x48, x49, x50, x51, x52, x53, x54, x55, x56, x57, x58, x59, x60, x61, x62, x63, x64, x65, x66, x67, x68, x69, x70, x71, x72, x73, x74, x75, x76, x77, x78, x79, x80, x81, x82, x83, x84, x85, x86, x87, x88, x89, x90, x91, x92, x93, x94, x95, x96, x97, x98, x99, x100, x101, x102, x103, x104, x105, x106, x107, x108, y109, y110, y111, y112, y113, y114, y115, y116, y117, y118, y119, y120, y121, y122, y123, y124, y125, x126, x127, x128, x129, x130, x131, x132, x133, x134, x135, x136, x137, x138, x139, x140, x141, x142, x143, x144, x145, x146, x147, x148, x149, x150, x151, x152, x153, x154, x155, x156, x157, x158, x159, x160, x161, x162], []⟩ w') {w : World} {v1 : Value} (hb : Hid (Below wc.heap.size wc w)) (ho : Hid (w.ownsRow wc.heap.size 9 1 v1 (0 + k) (([] ++ wa).map fun x => .string (mk x)))) :
    wpAnyH Try.prog .any r12 (NoPanic Q) (fun _ => True) 12 #[true, true, true, true, true, true, false, false, true, true, true, false, false, false, false, false, false, false, false, false, false] ⟨#[x0, x1, x2, x3, x4, x5, x6, x7, x8, x9, x10, x11, x12, x13, x14, x15, x16, x17, x18, x19, x20, x21, x22, x23, x24, x25, x26, x27, x28, x29, x30, x31, x32, x33, x34, x35, x36, x37, x38, x39, x40, x41, x42, x43, x44, x45, x46, x47, x48, x49, x50, x51, x52, x53, x54, x55, x56, x57, x58, x59, x60, x61, x62, x63, x64, x65, x66, x67, x68, x69, x70, x71, x72, x73, x74, x75, x76, x77, x78, x79, x80, x81, x82, x83, x84, x85, x86, x87, x88, x89, x90, x91, x92, x93, x94, x95, x96, x97, x98, x99, x100, x101, x102, x103, x104, x105, x106, x107, x108, x109, x110, x111, x112, .slice A k cA, v1, .string (mk how), x116, x117, x118, x119, .slice B m cB, x121, x122, x123, x124, x125, x126, x127, x128, x129, x130, x131, x132, x133, x134, x135, x136, x137, x138, x139, x140, x141, x142, x143, x144, x145, x146, x147, x148, x149, x150, x151, x152, x153, x154, x155, x156, x157, x158, x159, x160, x161, x162], []⟩ w := by
  refine wpAnyH_ready (rs := [6, 17]) (by kernel_rfl) (by simp) ?_
  obtain ⟨p6, f6, e6⟩ := o6
  refine AllReadyH.cons e6 (fun K hK => ?_) ?_
  · clear e6
    go_simp
    refine hK.out _ _ trivial (fun _ => ?_)
    clear hK K
    exact listed_as (by kernel_rfl) (r12_4a H hQ (w := w.alloc (.cells #[.string (mk how)] 9)) (Lib.hid (below_on hb.out _)) (Lib.hid (ho.out.alloc _)) (Lib.hid (Safe.new _ ho.out)))
  obtain ⟨p17, f17, e17⟩ := o17
  refine AllReadyH.cons e17 (fun K hK => ?_) ?_
  · clear e17
    go_simp
    refine hK.out _ _ trivial (fun _ => ?_)
    clear hK K
    exact listed_as (by kernel_rfl) (r12_4z H hQ (w := w.alloc (.cells #[.string ⟨#[]⟩, .string ⟨#[]⟩, .bool false, .bool false, .bool false, .slice none 0 0, .slice none 0 0, .slice none 0 0, .slice none 0 0, .bool false, .bool false] 73)) (Lib.hid (below_on hb.out _)) (Lib.hid (ho.out.alloc _)) (Lib.hid (Safe.new _ ho.out)) (Lib.hid hb.out.size))
  exact AllReadyH.nil

set_option maxRecDepth 100000 in
set_option maxHeartbeats 1000000 in
theorem r12_0az {x0 x1 x2 x3 x4 x5 x6 x7 x8 x9 x10 x11 x12 x13 x15 x16 x17 x18 x19 x20 x21 x22 x23 x24 x25 x26 x27 x28 x29 x30 x31 x32 x33 x34 x35 x36 x37 x38 x39 x40 x41 x42 x43 x44 x45 x46 x47 x48 x49 x50 x51 x52 x53 x54 x55 x56 x57 x58 x59 x60 x61 x62 x63 x64 x65 x66 x67 x68 x69 x70 x71 x72 x73 x74 x75 x76 x77 x78 x79 x80 x81 x82 x83 x84 x85 x86 x87 x88 x89 x90 x91 x92 x93 x94 x95 x96 x97 x98 x99 x100 x101 x102 x103 x104 x105 x106 x107 x108 x109 x111 x112 x114 x117 x118 x119 x121 x122 x123 x124 x125 x126 x127 x128 x129 x130 x131 x132 x133 x134 x135 x136 x137 x138 x139 x140 x141 x142 x143 x144 x145 x146 x147 x148 x149 x150 x151 x152 x153 x154 x155 x156 x157 x158 x159 x160 x161 x162 : Value} {wc : World} {how : Tx} {wa wb : List Tx} {A B : Option Addr} {k m cA cB : Nat} {WM : List Tx} {C : CmdT} {Q : Exit → Act → World → Prop} (H : R12 wc how wa wb A B k m cA cB WM C) (hQ : ∀ (y109 y110 y111 y112 y113 y114 y115 y116 y117 y118 y119 y120 y121 y122 y123 y124 y125 : Value) (z : Nat) (w' : World), CmdMem w' z wc.heap.size C → Below wc.heap.size wc w' → Q .normal ⟨#[x0, x1, x2, x3, x4, x5, x6, x7, x8, x9, x10, x11, x12, x13, .pointer (some ⟨z, 0, none⟩), .int .i64 (-1), .int .i64 0, x17, x18, x19, x20, x21, x22, x23, x24, x25, x26, x27, x28, x29, x30, x31, x32, x33, x34, x35, x36, x37, x38, x39, x40, x41, x42, x43, x44, x45, x46, x47, x48, x49, x50, x51, x52, x53, x54, x55, x56, x57, x58, x59, x60, x61, x62, x63, x64, x65, x66, x67, x68, x69, x70, x71, x72, x73, x74, x75, x76, x77, x78, x79, x80, x81, x82, x83, x84, x85, x86, x87, x88, x89, x90, x91, x92, x93, x94, x95, x96, x97, x98, x99, x100, x101, x102, x103, x104, x105, x106, x107, x108, y109, y110, y111, y112, y113, y114, y115, y116, y117, y118, y119, y120, y121, y122, y123, y124, y125, x126, x127, x128, x129, x130, x131, x132, x133, x134, x135, x136, x137, x138, x139, x140, x141, x142, x143, x144, x145, x146, x147, x148, x149, x150, x151, x152, x153, x154, x155, x156, x157, x158, x159, x160, x161, x162], []⟩ w') {w : World} {g : Nat} {h : Nat} {z : Nat} (hb : Hid (Below wc.heap.size wc w)) (hg : Hid (w.heap[g]? = some (.cells #[] 9))) (gB : Hid (wc.heap.size ≤ g)) (hh : Hid (w.heap[h]? = some (.cells #[.string (mk how)] 9))) (hz : Hid (w.heap[z]? = some (.cells #[.string ⟨#[]⟩, .string ⟨#[]⟩, .bool false, .bool false, .bool false, .slice none 0 0, .slice none 0 0, .slice none 0 0, .slice none 0 0, .bool false, .bool false] 73))) (zB : Hid (wc.heap.size ≤ z)) :
    wpAnyH Try.prog .any r12 (NoPanic Q) (fun _ => True) 11 #[true, true, true, true, false, true, true, false, true, true, true, false, false, false, false, false, false, true, false, false, false] ⟨#[x0, x1, x2, x3, x4, x5, x6, x7, x8, x9, x10, x11, x12, x13, .pointer (some ⟨z, 0, none⟩), x15, x16, x17, x18, x19, x20, x21, x22, x23, x24, x25, x26, x27, x28, x29, x30, x31, x32, x33, x34, x35, x36, x37, x38, x39, x40, x41, x42, x43, x44, x45, x46, x47, x48, x49, x50, x51, x52, x53, x54, x55, x56, x57, x58, x59, x60, x61, x62, x63, x64, x65, x66, x67, x68, x69, x70, x71, x72, x73, x74, x75, x76, x77, x78, x79, x80, x81, x82, x83, x84, x85, x86, x87, x88, x89, x90, x91, x92, x93, x94, x95, x96, x97, x98, x99, x100, x101, x102, x103, x104, x105, x106, x107, x108, x109, .slice (some ⟨g, 0, none⟩) 0 0, x111, x112, .slice A k cA, x114, .string (mk how), .slice (some ⟨h, 0, none⟩) 1 1, x117, x118, x119, .slice B m cB, x121, x122, x123, x124, x125, x126, x127, x128, x129, x130, x131, x132, x133, x134, x135, x136, x137, x138, x139, x140, x141, x142, x143, x144, x145, x146, x147, x148, x149, x150, x151, x152, x153, x154, x155, x156, x157, x158, x159, x160, x161, x162], []⟩ w := by
  refine wpAnyH_ready (rs := [4]) (by kernel_rfl) (by simp) ?_
  obtain ⟨p4, f4, e4⟩ := o4
  refine AllReadyH.cons e4 (fun K hK => ?_) ?_
  · clear e4
    refine step_append_strs (w0 := wc) wc.heap.size rfl _ _ rfl (.slice (some ⟨g, 0, none⟩) 0 0) 0 k [] wa rfl _ _ rfl H.la (H.sa.below hb.out) (own0_at hg.out gB.out) hb.out hb.out.size H.b1 ?_
    intro v w1 ho1 hb1 hs1
    refine hK.out _ _ trivial (fun _ => ?_)
    clear hK K
    simp only [Act.put, List.setIfInBounds_toArray, List.set_cons_zero, List.set_cons_succ]
    exact listed_as (by kernel_rfl) (r12_4az H hQ (w := w1) (Lib.hid hb1) (Lib.hid ho1) (Lib.hid (hs1 _ _ ⟨hh.out, ne_of_objs hg.out hh.out (by simp)⟩)) (Lib.hid (hs1 _ _ ⟨hz.out, ne_of_objs hg.out hz.out (by simp)⟩)) zB)
  exact AllReadyH.nil

set_option maxRecDepth 100000 in
set_option maxHeartbeats 1000000 in
theorem r12_0a {x0 x1 x2 x3 x4 x5 x6 x7 x8 x9 x10 x11 x12 x13 x14 x15 x16 x17 x18 x19 x20 x21 x22 x23 x24 x25 x26 x27 x28 x29 x30 x31 x32 x33 x34 x35 x36 x37 x38 x39 x40 x41 x42 x43 x44 x45 x46 x47 x48 x49 x50 x51 x52 x53 x54 x55 x56 x57 x58 x59 x60 x61 x62 x63 x64 x65 x66 x67 x68 x69 x70 x71 x72 x73 x74 x75 x76 x77 x78 x79 x80 x81 x82 x83 x84 x85 x86 x87 x88 x89 x90 x91 x92 x93 x94 x95 x96 x97 x98 x99 x100 x101 x102 x103 x104 x105 x106 x107 x108 x109 x111 x112 x114 x117 x118 x119 x121 x122 x123 x124 x125 x126 x127 x128 x129 x130 x131 x132 x133 x134 x135 x136 x137 x138 x139 x140 x141 x142 x143 x144 x145 x146 x147 x148 x149 x150 x151 x152 x153 x154 x155 x156 x157 x158 x159 x160 x161 x162 : Value} {wc : World} {how : Tx} {wa wb : List Tx} {A B : Option Addr} {k m cA cB : Nat} {WM : List Tx} {C : CmdT} {Q : Exit → Act → World → Prop} (H : R12 wc how wa wb A B k m cA cB WM C) (hQ : ∀ (y109 y110 y111 y112 y113 y114 y115 y116 y117 y118 y119 y120 y121 y122 y123 y124 y125 : Value) (z : Nat) (w' : World), CmdMem w' z wc.heap.size C → Below wc.heap.size wc w' → Q .normal ⟨#[x0, x1, x2, x3, x4, x5, x6, x7, x8, x9, x10, x11, x12, x13, .pointer (some ⟨z, 0, none⟩), .int .i64 (-1), .int .i64 0, x17, x18, x19, x20, x21, x22, x23, x24, x25, x26, x27, x28, x29, x30, x31, x32, x33, x34, x35, x36, x37, x38, x39, x40, x41, x42, x43, x44, x45, x46, x47, x48, x49, x50, x51, x52, x53, x54, x55, x56, x57, x58, x59, x60, x61, x62, x63, x64, x65, x66, x67, x68, x69, x70, x71, x72, x73, x74, x75, x76, x77, x78, x79, x80, x81, x82, x83, x84, x85, x86, x87, x88, x89, x90, x91, x92, x93, x94, x95, x96, x97, x98, x99, x100, x101, x102, x103, x104, x105, x106, x107, x108, y109, y110, y111, y112, y113, y114, y115, y116, y117, y118, y119, y120, y121, y122, y123, y124, y125, x126, x127, x128, x129, x130, x131, x132, x133, x134, x135, x136, x137, x138, x139, x140, x141, x142, x143, x144, x145, x146, x147, x148, x149, x150, x151, x152, x153, x154, x155, x156, x157, x158, x159, x160, x161, x162], []⟩ w') {w : World} {g : Nat} {h : Nat} (hb : Hid (Below wc.heap.size wc w)) (hg : Hid (w.heap[g]? = some (.cells #[] 9))) (gB : Hid (wc.heap.size ≤ g)) (hh : Hid (w.heap[h]? = some (.cells #[.string (mk how)] 9))) :
    wpAnyH Try.prog .any r12 (NoPanic Q) (fun _ => True) 12 #[true, true, true, true, false, true, true, false, true, true, true, false, false, false, false, false, false, false, false, false, false] ⟨#[x0, x1, x2, x3, x4, x5, x6, x7, x8, x9, x10, x11, x12, x13, x14, x15, x16, x17, x18, x19, x20, x21, x22, x23, x24, x25, x26, x27, x28, x29, x30, x31, x32, x33, x34, x35, x36, x37, x38, x39, x40, x41, x42, x43, x44, x45, x46, x47, x48, x49, x50, x51, x52, x53, x54, x55, x56, x57, x58, x59, x60, x61, x62, x63, x64, x65, x66, x67, x68, x69, x70, x71, x72, x73, x74, x75, x76, x77, x78, x79, x80, x81, x82, x83, x84, x85, x86, x87, x88, x89, x90, x91, x92, x93, x94, x95, x96, x97, x98, x99, x100, x101, x102, x103, x104, x105, x106, x107, x108, x109, .slice (some ⟨g, 0, none⟩) 0 0, x111, x112, .slice A k cA, x114, .string (mk how), .slice (some ⟨h, 0, none⟩) 1 1, x117, x118, x119, .slice B m cB, x121, x122, x123, x124, x125, x126, x127, x128, x129, x130, x131, x132, x133, x134, x135, x136, x137, x138, x139, x140, x141, x142, x143, x144, x145, x146, x147, x148, x149, x150, x151, x152, x153, x154, x155, x156, x157, x158, x159, x160, x161, x162], []⟩ w := by
  refine wpAnyH_ready (rs := [4, 17]) (by kernel_rfl) (by simp) ?_
  obtain ⟨p4, f4, e4⟩ := o4
  refine AllReadyH.cons e4 (fun K hK => ?_) ?_
  · clear e4
    refine step_append_strs (w0 := wc) wc.heap.size rfl _ _ rfl (.slice (some ⟨g, 0, none⟩) 0 0) 0 k [] wa rfl _ _ rfl H.la (H.sa.below hb.out) (own0_at hg.out gB.out) hb.out hb.out.size H.b1 ?_
    intro v w1 ho1 hb1 hs1
    refine hK.out _ _ trivial (fun _ => ?_)
    clear hK K
    simp only [Act.put, List.setIfInBounds_toArray, List.set_cons_zero, List.set_cons_succ]
    exact listed_as (by kernel_rfl) (r12_4a H hQ (w := w1) (Lib.hid hb1) (Lib.hid ho1) (Lib.hid (hs1 _ _ ⟨hh.out, ne_of_objs hg.out hh.out (by simp)⟩)))
  obtain ⟨p17, f17, e17⟩ := o17
  refine AllReadyH.cons e17 (fun K hK => ?_) ?_
  · clear e17
    go_simp
    refine hK.out _ _ trivial (fun _ => ?_)
    clear hK K
    exact listed_as (by kernel_rfl) (r12_0az H hQ (w := w.alloc (.cells #[.string ⟨#[]⟩, .string ⟨#[]⟩, .bool false, .bool false, .bool false, .slice none 0 0, .slice none 0 0, .slice none 0 0, .slice none 0 0, .bool false, .bool false] 73)) (Lib.hid (below_on hb.out _)) (Lib.hid (heap_keep hg.out _)) gB (Lib.hid (heap_keep hh.out _)) (Lib.hid (heap_alloc_new _ _)) (Lib.hid hb.out.size))
  exact AllReadyH.nil

set_option maxRecDepth 100000 in
set_option maxHeartbeats 1000000 in
theorem r12_0z {x0 x1 x2 x3 x4 x5 x6 x7 x8 x9 x10 x11 x12 x13 x15 x16 x17 x18 x19 x20 x21 x22 x23 x24 x25 x26 x27 x28 x29 x30 x31 x32 x33 x34 x35 x36 x37 x38 x39 x40 x41 x42 x43 x44 x45 x46 x47 x48 x49 x50 x51 x52 x53 x54 x55 x56 x57 x58 x59 x60 x61 x62 x63 x64 x65 x66 x67 x68 x69 x70 x71 x72 x73 x74 x75 x76 x77 x78 x79 x80 x81 x82 x83 x84 x85 x86 x87 x88 x89 x90 x91 x92 x93 x94 x95 x96 x97 x98 x99 x100 x101 x102 x103 x104 x105 x106 x107 x108 x109 x111 x112 x114 x116 x117 x118 x119 x121 x122 x123 x124 x125 x126 x127 x128 x129 x130 x131 x132 x133 x134 x135 x136 x137 x138 x139 x140 x141 x142 x143 x144 x145 x146 x147 x148 x149 x150 x151 x152 x153 x154 x155 x156 x157 x158 x159 x160 x161 x162 : Value} {wc : World} {how : Tx} {wa wb : List Tx} {A B : Option Addr} {k m cA cB : Nat} {WM : List Tx} {C : CmdT} {Q : Exit → Act → World → Prop} (H : R12 wc how wa wb A B k m cA cB WM C) (hQ : ∀ (y109 y110 y111 y112 y113 y114 y115 y116 y117 y118 y119 y120 y121 y122 y123 y124 y125 : Value) (z : Nat) (w' : World), CmdMem w' z wc.heap.size C → Below wc.heap.size wc w' → Q .normal ⟨#[x0, x1, x2, x3, x4, x5, x6, x7, x8, x9, x10, x11, x12, x13, .pointer (some ⟨z, 0, none⟩), .int .i64 (-1), .int .i64 0, x17, x18, x19, x20, x21, x22, x23, x24, x25, x26, x27, x28, x29, x30, x31, x32, x33, x34, x35, x36, x37, x38, x39, x40, x41, x42, x43, x44, x45, x46, x47, x48, x49, x50, x51, x52, x53, x54, x55, x56, x57, x58, x59, x60, x61, x62, x63, x64, x65, x66, x67, x68, x69, x70, x71, x72, x73, x74, x75, x76, x77, x78, x79, x80, x81, x82, x83, x84, x85, x86, x87, x88, x89, x90, x91, x92, x93, x94, x95, x96, x97, x98, x99, x100, x101, x102, x103, x104, x105, x106, x107, x108, y109, y110, y111, y112, y113, y114, y115, y116, y117, y118, y119, y120, y121, y122, y123, y124, y125, x126, x127, x128, x129, x130, x131, x132, x133, x134, x135, x136, x137, x138, x139, x140, x141, x142, x143, x144, x145, x146, x147, x148, x149, x150, x151, x152, x153, x154, x155, x156, x157, x158, x159, x160, x161, x162], []⟩ w') {w : World} {g : Nat} {z : Nat} (hb : Hid (Below wc.heap.size wc w)) (hg : Hid (w.heap[g]? = some (.cells #[] 9))) (gB : Hid (wc.heap.size ≤ g)) (hz : Hid (w.heap[z]? = some (.cells #[.string ⟨#[]⟩, .string ⟨#[]⟩, .bool false, .bool false, .bool false, .slice none 0 0, .slice none 0 0, .slice none 0 0, .slice none 0 0, .bool false, .bool false] 73))) (zB : Hid (wc.heap.size ≤ z)) :
    wpAnyH Try.prog .any r12 (NoPanic Q) (fun _ => True) 12 #[true, true, true, true, false, true, false, false, true, true, true, false, false, false, false, false, false, true, false, false, false] ⟨#[x0, x1, x2, x3, x4, x5, x6, x7, x8, x9, x10, x11, x12, x13, .pointer (some ⟨z, 0, none⟩), x15, x16, x17, x18, x19, x20, x21, x22, x23, x24, x25, x26, x27, x28, x29, x30, x31, x32, x33, x34, x35, x36, x37, x38, x39, x40, x41, x42, x43, x44, x45, x46, x47, x48, x49, x50, x51, x52, x53, x54, x55, x56, x57, x58, x59, x60, x61, x62, x63, x64, x65, x66, x67, x68, x69, x70, x71, x72, x73, x74, x75, x76, x77, x78, x79, x80, x81, x82, x83, x84, x85, x86, x87, x88, x89, x90, x91, x92, x93, x94, x95, x96, x97, x98, x99, x100, x101, x102, x103, x104, x105, x106, x107, x108, x109, .slice (some ⟨g, 0, none⟩) 0 0, x111, x112, .slice A k cA, x114, .string (mk how), x116, x117, x118, x119, .slice B m cB, x121, x122, x123, x124, x125, x126, x127, x128, x129, x130, x131, x132, x133, x134, x135, x136, x137, x138, x139, x140, x141, x142, x143, x144, x145, x146, x147, x148, x149, x150, x151, x152, x153, x154, x155, x156, x157, x158, x159, x160, x161, x162], []⟩ w := by
  refine wpAnyH_ready (rs := [4, 6]) (by kernel_rfl) (by simp) ?_
  obtain ⟨p4, f4, e4⟩ := o4
  refine AllReadyH.cons e4 (fun K hK => ?_) ?_
  · clear e4
    refine step_append_strs (w0 := wc) wc.heap.size rfl _ _ rfl (.slice (some ⟨g, 0, none⟩) 0 0) 0 k [] wa rfl _ _ rfl H.la (H.sa.below hb.out) (own0_at hg.out gB.out) hb.out hb.out.size H.b1 ?_
    intro v w1 ho1 hb1 hs1
    refine hK.out _ _ trivial (fun _ => ?_)
    clear hK K
    simp only [Act.put, List.setIfInBounds_toArray, List.set_cons_zero, List.set_cons_succ]
    exact listed_as (by kernel_rfl) (r12_4z H hQ (w := w1) (Lib.hid hb1) (Lib.hid ho1) (Lib.hid (hs1 _ _ ⟨hz.out, ne_of_objs hg.out hz.out (by simp)⟩)) zB)
  obtain ⟨p6, f6, e6⟩ := o6
  refine AllReadyH.cons e6 (fun K hK => ?_) ?_
  · clear e6
    go_simp
    refine hK.out _ _ trivial (fun _ => ?_)
    clear hK K
    exact listed_as (by kernel_rfl) (r12_0az H hQ (w := w.alloc (.cells #[.string (mk how)] 9)) (Lib.hid (below_on hb.out _)) (Lib.hid (heap_keep hg.out _)) gB (Lib.hid (heap_alloc_new _ _)) (Lib.hid (heap_keep hz.out _)) zB)
  exact AllReadyH.nil

set_option maxRecDepth 100000 in
set_option maxHeartbeats 1000000 in
theorem r12_0 {x0 x1 x2 x3 x4 x5 x6 x7 x8 x9 x10 x11 x12 x13 x14 x15 x16 x17 x18 x19 x20 x21 x22 x23 x24 x25 x26 x27 x28 x29 x30 x31 x32 x33 x34 x35 x36 x37 x38 x39 x40 x41 x42 x43 x44 x45 x46 x47 x48 x49 x50 x51 x52 x53 x54 x55 x56 x57 x58 x59 x60 x61 x62 x63 x64 x65 x66 x67 x68 x69 x70 x71 x72 x73 x74 x75 x76 x77 x78 x79 x80 x81 x82 x83 x84 x85 x86 x87 x88 x89 x90 x91 x92 x93 x94 x95 x96 x97 x98 x99 x100 x101 x102 x103 x104 x105 x106 x107 x108 x109 x111 x112 x114 x116 x117 x118 x119 x121 x122 x123 x124 x125 x126 x127 x128 x129 x130 x131 x132 x133 x134 x135 x136 x137 x138 x139 x140 x141 x142 x143 x144 x145 x146 x147 x148 x149 x150 x151 x152 x153 x154 x155 x156 x157 x158 x159 x160 x161 x162 : Value} {wc : World} {how : Tx} {wa wb : List Tx} {A B : Option Addr} {k m cA cB : Nat} {WM : List Tx} {C : CmdT} {Q : Exit → Act → World → Prop} (H : R12 wc how wa wb A B k m cA cB WM C) (hQ : ∀ (y109 y110 y111 y112 y113 y114 y115 y116 y117 y118 y119 y120 y121 y122 y123 y124 y125 : Value) (z : Nat) (w' : World), CmdMem w' z wc.heap.size C → Below wc.heap.size wc w' → Q .normal ⟨#[x0, x1, x2, x3, x4, x5, x6, x7, x8, x9, x10, x11, x12, x13, .pointer (some ⟨z, 0, none⟩), .int .i64 (-1), .int .i64 0, x17, x18, x19, x20, x21, x22, x23, x24, x25, x26, x27, x28, x29, x30, x31, x32, x33, x34, x35, x36, x37, x38, x39, x40, x41, x42, x43, x44, x45, x46, x47, x48, x49, x50, x51, x52, x53, x54, x55, x56, x57, x58, x59, x60, x61, x62, x63, x64, x65, x66, x67, x68, x69, x70, x71, x72, x73, x74, x75, x76, x77, x78, x79, x80, x81, x82, x83, x84, x85, x86, x87, x88, x89, x90, x91, x92, x93, x94, x95, x96, x97, x98, x99, x100, x101, x102, x103, x104, x105, x106, x107, x108, y109, y110, y111, y112, y113, y114, y115, y116, y117, y118, y119, y120, y121, y122, y123, y124, y125, x126, x127, x128, x129, x130, x131, x132, x133, x134, x135, x136, x137, x138, x139, x140, x141, x142, x143, x144, x145, x146, x147, x148, x149, x150, x151, x152, x153, x154, x155, x156, x157, x158, x159, x160, x161, x162], []⟩ w') {w : World} {g : Nat} (hb : Hid (Below wc.heap.size wc w)) (hg : Hid (w.heap[g]? = some (.cells #[] 9))) (gB : Hid (wc.heap.size ≤ g)) :
    wpAnyH Try.prog .any r12 (NoPanic Q) (fun _ => True) 13 #[true, true, true, true, false, true, false, false, true, true, true, false, false, false, false, false, false, false, false, false, false] ⟨#[x0, x1, x2, x3, x4, x5, x6, x7, x8, x9, x10, x11, x12, x13, x14, x15, x16, x17, x18, x19, x20, x21, x22, x23, x24, x25, x26, x27, x28, x29, x30, x31, x32, x33, x34, x35, x36, x37, x38, x39, x40, x41, x42, x43, x44, x45, x46, x47, x48, x49, x50, x51, x52, x53, x54, x55, x56, x57, x58, x59, x60, x61, x62, x63, x64, x65, x66, x67, x68, x69, x70, x71, x72, x73, x74, x75, x76, x77, x78, x79, x80, x81, x82, x83, x84, x85, x86, x87, x88, x89, x90, x91, x92, x93, x94, x95, x96, x97, x98, x99, x100, x101, x102, x103, x104, x105, x106, x107, x108, x109, .slice (some ⟨g, 0, none⟩) 0 0, x111, x112, .slice A k cA, x114, .string (mk how), x116, x117, x118, x119, .slice B m cB, x121, x122, x123, x124, x125, x126, x127, x128, x129, x130, x131, x132, x133, x134, x135, x136, x137, x138, x139, x140, x141, x142, x143, x144, x145, x146, x147, x148, x149, x150, x151, x152, x153, x154, x155, x156, x157, x158, x159, x160, x161, x162], []⟩ w := by
  refine wpAnyH_ready (rs := [4, 6, 17]) (by kernel_rfl) (by simp) ?_
  obtain ⟨p4, f4, e4⟩ := o4
  refine AllReadyH.cons e4 (fun K hK => ?_) ?_
  · clear e4
    refine step_append_strs (w0 := wc) wc.heap.size rfl _ _ rfl (.slice (some ⟨g, 0, none⟩) 0 0) 0 k [] wa rfl _ _ rfl H.la (H.sa.below hb.out) (own0_at hg.out gB.out) hb.out hb.out.size H.b1 ?_
    intro v w1 ho1 hb1 hs1
    refine hK.out _ _ trivial (fun _ => ?_)
    clear hK K
    simp only [Act.put, List.setIfInBounds_toArray, List.set_cons_zero, List.set_cons_succ]
    exact listed_as (by kernel_rfl) (r12_4 H hQ (w := w1) (Lib.hid hb1) (Lib.hid ho1))
  obtain ⟨p6, f6, e6⟩ := o6
  refine AllReadyH.cons e6 (fun K hK => ?_) ?_
  · clear e6
    go_simp
    refine hK.out _ _ trivial (fun _ => ?_)
    clear hK K
    exact listed_as (by kernel_rfl) (r12_0a H hQ (w := w.alloc (.cells #[.string (mk how)] 9)) (Lib.hid (below_on hb.out _)) (Lib.hid (heap_keep hg.out _)) gB (Lib.hid (heap_alloc_new _ _)))
  obtain ⟨p17, f17, e17⟩ := o17
  refine AllReadyH.cons e17 (fun K hK => ?_) ?_
  · clear e17
    go_simp
    refine hK.out _ _ trivial (fun _ => ?_)
    clear hK K
    exact listed_as (by kernel_rfl) (r12_0z H hQ (w := w.alloc (.cells #[.string ⟨#[]⟩, .string ⟨#[]⟩, .bool false, .bool false, .bool false, .slice none 0 0, .slice none 0 0, .slice none 0 0, .slice none 0 0, .bool false, .bool false] 73)) (Lib.hid (below_on hb.out _)) (Lib.hid (heap_keep hg.out _)) gB (Lib.hid (heap_alloc_new _ _)) (Lib.hid hb.out.size))
  exact AllReadyH.nil

set_option maxRecDepth 100000 in
set_option maxHeartbeats 1000000 in
theorem r12_saz {x0 x1 x2 x3 x4 x5 x6 x7 x8 x9 x10 x11 x12 x13 x15 x16 x17 x18 x19 x20 x21 x22 x23 x24 x25 x26 x27 x28 x29 x30 x31 x32 x33 x34 x35 x36 x37 x38 x39 x40 x41 x42 x43 x44 x45 x46 x47 x48 x49 x50 x51 x52 x53 x54 x55 x56 x57 x58 x59 x60 x61 x62 x63 x64 x65 x66 x67 x68 x69 x70 x71 x72 x73 x74 x75 x76 x77 x78 x79 x80 x81 x82 x83 x84 x85 x86 x87 x88 x89 x90 x91 x92 x93 x94 x95 x96 x97 x98 x99 x100 x101 x102 x103 x104 x105 x106 x107 x108 x109 x110 x111 x112 x114 x117 x118 x119 x121 x122 x123 x124 x125 x126 x127 x128 x129 x130 x131 x132 x133 x134 x135 x136 x137 x138 x139 x140 x141 x142 x143 x144 x145 x146 x147 x148 x149 x150 x151 x152 x153 x154 x155 x156 x157 x158 x159 x160 x161 x162 : Value} {wc : World} {how : Tx} {wa wb : List Tx} {A B : Option Addr} {k m cA cB : Nat} {WM : List Tx} {C : CmdT} {Q : Exit → Act → World → Prop} (H : R12 wc how wa wb A B k m cA cB WM C) (hQ : ∀ (y109 y110 y111 y112 y113 y114 y115 y116 y117 y118 y119 y120 y121 y122 y123 y124 y125 : Value) (z : Nat) (w' : World), CmdMem w' z wc.heap.size C → Below wc.heap.size wc w' → Q .normal ⟨#[x0, x1, x2, x3, x4, x5, x6, x7, x8, x9, x10, x11, x12, x13, .pointer (some ⟨z, 0, none⟩), .int .i64 (-1), .int .i64 0, x17, x18, x19, x20, x21, x22, x23, x24, x25, x26, x27, x28, x29, x30, x31, x32, x33, x34, x35, x36, x37, x38, x39, x40, x41, x42, x43, x44, x45, x46, x47, x48, x49, x50, x51, x52, x53, x54, x55, x56, x57, x58, x59, x60, x61, x62, x63, x64, x65, x66, x67, x68, x69, x70, x71, x72, x73, x74, x75, x76, x77, x78, x79, x80, x81, x82, x83, x84, x85, x86, x87, x88, x89, x90, x91, x92, x93, x94, x95, x96, x97, x98, x99, x100, x101, x102, x103, x104, x105, x106, x107, x108, y109, y110, y111, y112, y113, y114, y115, y116, y117, y118, y119, y120, y121, y122, y123, y124, y125, x126, x127, x128, x129, x130, x131, x132, x133, x134, x135, x136, x137, x138, x139, x140, x141, x142, x143, x144, x145, x146, x147, x148, x149, x150, x151, x152, x153, x154, x155, x156, x157, x158, x159, x160, x161, x162], []⟩ w') {w : World} {h : Nat} {z : Nat} (hb : Hid (Below wc.heap.size wc w)) (hh : Hid (w.heap[h]? = some (.cells #[.string (mk how)] 9))) (hz : Hid (w.heap[z]? = some (.cells #[.string ⟨#[]⟩, .string ⟨#[]⟩, .bool false, .bool false, .bool false, .slice none 0 0, .slice none 0 0, .slice none 0 0, .slice none 0 0, .bool false, .bool false] 73))) (zB : Hid (wc.heap.size ≤ z)) :
    wpAnyH Try.prog .any r12 (NoPanic Q) (fun _ => True) 12 #[false, true, true, true, false, true, true, false, true, true, true, false, false, false, false, false, false, true, false, false, false] ⟨#[x0, x1, x2, x3, x4, x5, x6, x7, x8, x9, x10, x11, x12, x13, .pointer (some ⟨z, 0, none⟩), x15, x16, x17, x18, x19, x20, x21, x22, x23, x24, x25, x26, x27, x28, x29, x30, x31, x32, x33, x34, x35, x36, x37, x38, x39, x40, x41, x42, x43, x44, x45, x46, x47, x48, x49, x50, x51, x52, x53, x54, x55, x56, x57, x58, x59, x60, x61, x62, x63, x64, x65, x66, x67, x68, x69, x70, x71, x72, x73, x74, x75, x76, x77, x78, x79, x80, x81, x82, x83, x84, x85, x86, x87, x88, x89, x90, x91, x92, x93, x94, x95, x96, x97, x98, x99, x100, x101, x102, x103, x104, x105, x106, x107, x108, x109, x110, x111, x112, .slice A k cA, x114, .string (mk how), .slice (some ⟨h, 0, none⟩) 1 1, x117, x118, x119, .slice B m cB, x121, x122, x123, x124, x125, x126, x127, x128, x129, x130, x131, x132, x133, x134, x135, x136, x137, x138, x139, x140, x141, x142, x143, x144, x145, x146, x147, x148, x149, x150, x151, x152, x153, x154, x155, x156, x157, x158, x159, x160, x161, x162], []⟩ w := by
  refine wpAnyH_ready (rs := [0]) (by kernel_rfl) (by simp) ?_
  obtain ⟨p0, f0, e0⟩ := o0
  refine AllReadyH.cons e0 (fun K hK => ?_) ?_
  · clear e0
    go_simp
    refine hK.out _ _ trivial (fun _ => ?_)
    clear hK K
    exact listed_as (by kernel_rfl) (r12_0az H hQ (w := w.alloc (.cells #[] 9)) (Lib.hid (below_on hb.out _)) (Lib.hid (heap_alloc_new _ _)) (Lib.hid hb.out.size) (Lib.hid (heap_keep hh.out _)) (Lib.hid (heap_keep hz.out _)) zB)
  exact AllReadyH.nil

set_option maxRecDepth 100000 in
set_option maxHeartbeats 1000000 in
theorem r12_sa {x0 x1 x2 x3 x4 x5 x6 x7 x8 x9 x10 x11 x12 x13 x14 x15 x16 x17 x18 x19 x20 x21 x22 x23 x24 x25 x26 x27 x28 x29 x30 x31 x32 x33 x34 x35 x36 x37 x38 x39 x40 x41 x42 x43 x44 x45 x46 x47 x48 x49 x50 x51 x52 x53 x54 x55 x56 x57 x58 x59 x60 x61 x62 x63 x64 x65 x66 x67 x68 x69 x70 x71 x72 x73 x74 x75 x76 x77 x78 x79 x80 x81 x82 x83 x84 x85 x86 x87 x88 x89 x90 x91 x92 x93 x94 x95 x96 x97 x98 x99 x100 x101 x102 x103 x104 x105 x106 x107 x108 x109 x110 x111 x112 x114 x117 x118 x119 x121 x122 x123 x124 x125 x126 x127 x128 x129 x130 x131 x132 x133 x134 x135 x136 x137 x138 x139 x140 x141 x142 x143 x144 x145 x146 x147 x148 x149 x150 x151 x152 x153 x154 x155 x156 x157 x158 x159 x160 x161 x162 : Value} {wc : World} {how : Tx} {wa wb : List Tx} {A B : Option Addr} {k m cA cB : Nat} {WM : List Tx} {C : CmdT} {Q : Exit → Act → World → Prop} (H : R12 wc how wa wb A B k m cA cB WM C) (hQ : ∀ (y109 y110 y111 y112 y113 y114 y115 y116 y117 y118 y119 y120 y121 y122 y123 y124 y125 : Value) (z : Nat) (w' : World), CmdMem w' z wc.heap.size C → Below wc.heap.size wc w' → Q .normal ⟨#[x0, x1, x2, x3, x4, x5, x6, x7, x8, x9, x10, x11, x12, x13, .pointer (some ⟨z, 0, none⟩), .int .i64 (-1), .int .i64 0, x17, x18, x19, x20, x21, x22, x23, x24, x25, x26, x27, x28, x29, x30, x31, x32, x33, x34, x35, x36, x37, x38, x39, x40, x41, x42, x43, x44, x45, x46, x47, x48, x49, x50, x51, x52, x53, x54, x55, x56, x57, x58, x59, x60, x61, x62, x63, x64, x65, x66, x67, x68, x69, x70, x71, x72, x73, x74, x75, x76, x77, x78, x79, x80, x81, x82, x83, x84, x85, x86, x87, x88, x89, x90, x91, x92, x93, x94, x95, x96, x97, x98, x99, x100, x101, x102, x103, x104, x105, x106, x107, x108, y109, y110, y111, y112, y113, y114, y115, y116, y117, y118, y119, y120, y121, y122, y123, y124, y125, x126, x127, x128, x129, x130, x131, x132, x133, x134, x135, x136, x137, x138, x139, x140, x141, x142, x143, x144, x145, x146, x147, x148, x149, x150, x151, x152, x153, x154, x155, x156, x157, x158, x159, x160, x161, x162], []⟩ w') {w : World} {h : Nat} (hb : Hid (Below wc.heap.size wc w)) (hh : Hid (w.heap[h]? = some (.cells #[.string (mk how)] 9))) :
    wpAnyH Try.prog .any r12 (NoPanic Q) (fun _ => True) 13 #[false, true, true, true, false, true, true, false, true, true, true, false, false, false, false, false, false, false, false, false, false] ⟨#[x0, x1, x2, x3, x4, x5, x6, x7, x8, x9, x10, x11, x12, x13, x14, x15, x16, x17, x18, x19, x20, x21, x22, x23, x24, x25, x26, x27, x28, x29, x30, x31, x32, x33, x34, x35, x36, x37, x38, x39, x40, x41, x42, x43, x44, x45, x46, x47, x48, x49, x50, x51, x52, x53, x54, x55, x56, x57, x58, x59, x60, x61, x62, x63, x64, x65, x66, x67, x68, x69, x70, x71, x72, x73, x74, x75, x76, x77, x78, x79, x80, x81, x82, x83, x84, x85, x86, x87, x88, x89, x90, x91, x92, x93, x94, x95, x96, x97, x98, x99, x100, x101, x102, x103, x104, x105, x106, x107, x108, x109, x110, x111, x112, .slice A k cA, x114, .string (mk how), .slice (some ⟨h, 0, none⟩) 1 1, x117, x118, x119, .slice B m cB, x121, x122, x123, x124, x125, x126, x127, x128, x129, x130, x131, x132, x133, x134, x135, x136, x137, x138, x139, x140, x141, x142, x143, x144, x145, x146, x147, x148, x149, x150, x151, x152, x153, x154, x155, x156, x157, x158, x159, x160, x161, x162], []⟩ w := by
  refine wpAnyH_ready (rs := [0, 17]) (by kernel_rfl) (by simp) ?_
  obtain ⟨p0, f0, e0⟩ := o0
  refine AllReadyH.cons e0 (fun K hK => ?_) ?_
  · clear e0
    go_simp
    refine hK.out _ _ trivial (fun _ => ?_)
    clear hK K
    exact listed_as (by kernel_rfl) (r12_0a H hQ (w := w.alloc (.cells #[] 9)) (Lib.hid (below_on hb.out _)) (Lib.hid (heap_alloc_new _ _)) (Lib.hid hb.out.size) (Lib.hid (heap_keep hh.out _)))
  obtain ⟨p17, f17, e17⟩ := o17
  refine AllReadyH.cons e17 (fun K hK => ?_) ?_
  · clear e17
    go_simp
    refine hK.out _ _ trivial (fun _ => ?_)
    clear hK K
    exact listed_as (by kernel_rfl) (r12_saz H hQ (w := w.alloc (.cells #[.string ⟨#[]⟩, .string ⟨#[]⟩, .bool false, .bool false, .bool false, .slice none 0 0, .slice none 0 0, .slice none 0 0, .slice none 0 0, .bool false, .bool false] 73)) (Lib.hid (below_on hb.out _)) (Lib.hid (heap_keep hh.out _)) (Lib.hid (heap_alloc_new _ _)) (Lib.hid hb.out.size))
  exact AllReadyH.nil

set_option maxRecDepth 100000 in
set_option maxHeartbeats 1000000 in
theorem r12_sz {x0 x1 x2 x3 x4 x5 x6 x7 x8 x9 x10 x11 x12 x13 x15 x16 x17 x18 x19 x20 x21 x22 x23 x24 x25 x26 x27 x28 x29 x30 x31 x32 x33 x34 x35 x36 x37 x38 x39 x40 x41 x42 x43 x44 x45 x46 x47 x48 x49 x50 x51 x52 x53 x54 x55 x56 x57 x58 x59 x60 x61 x62 x63 x64 x65 x66 x67 x68 x69 x70 x71 x72 x73 x74 x75 x76 x77 x78 x79 x80 x81 x82 x83 x84 x85 x86 x87 x88 x89 x90 x91 x92 x93 x94 x95 x96 x97 x98 x99 x100 x101 x102 x103 x104 x105 x106 x107 x108 x109 x110 x111 x112 x114 x116 x117 x118 x119 x121 x122 x123 x124 x125 x126 x127 x128 x129 x130 x131 x132 x133 x134 x135 x136 x137 x138 x139 x140 x141 x142 x143 x144 x145 x146 x147 x148 x149 x150 x151 x152 x153 x154 x155 x156 x157 x158 x159 x160 x161 x162 : Value} {wc : World} {how : Tx} {wa wb : List Tx} {A B : Option Addr} {k m cA cB : Nat} {WM : List Tx} {C : CmdT} {Q : Exit → Act → World → Prop} (H : R12 wc how wa wb A B k m cA cB WM C) (hQ : ∀ (y109 y110 y111 y112 y113 y114 y115 y116 y117 y118 y119 y120 y121 y122 y123 y124 y125 : Value) (z : Nat) (w' : World), CmdMem w' z wc.heap.size C → Below wc.heap.size wc w' → Q .normal ⟨#[x0, x1, x2, x3, x4, x5, x6, x7, x8, x9, x10, x11, x12, x13, .pointer (some ⟨z, 0, none⟩), .int .i64 (-1), .int .i64 0, x17, x18, x19, x20, x21, x22, x23, x24, x25, x26, x27, x28, x29, x30, x31, x32, x33, x34, x35, x36, x37, x38, x39, x40, x41, x42, x43, x44, x45, x46, x47, x48, x49, x50, x51, x52, x53, x54, x55, x56, x57, x58, x59, x60, x61, x62, x63, x64, x65, x66, x67, x68, x69, x70, x71, x72, x73, x74, x75, x76, x77, x78, x79, x80, x81, x82, x83, x84, x85, x86, x87, x88, x89, x90, x91, x92, x93, x94, x95, x96, x97, x98, x99, x100, x101, x102, x103, x104, x105, x106, x107, x108, y109, y110, y111, y112, y113, y114, y115, y116, y117, y118, y119, y120, y121, y122, y123, y124, y125, x126, x127, x128, x129, x130, x131, x132, x133, x134, x135, x136, x137, x138, x139, x140, x141, x142, x143, x144, x145, x146, x147, x148, x149, x150, x151, x152, x153, x154, x155, x156, x157, x158, x159, x160, x161, x162], []⟩ w') {w : World} {z : Nat} (hb : Hid (Below wc.heap.size wc w)) (hz : Hid (w.heap[z]? = some (.cells #[.string ⟨#[]⟩, .string ⟨#[]⟩, .bool false, .bool false, .bool false, .slice none 0 0, .slice none 0 0, .slice none 0 0, .slice none 0 0, .bool false, .bool false] 73))) (zB : Hid (wc.heap.size ≤ z)) :
    wpAnyH Try.prog .any r12 (NoPanic Q) (fun _ => True) 13 #[false, true, true, true, false, true, false, false, true, true, true, false, false, false, false, false, false, true, false, false, false] ⟨#[x0, x1, x2, x3, x4, x5, x6, x7, x8, x9, x10, x11, x12, x13, .pointer (some ⟨z, 0, none⟩), x15, x16, x17, x18, x19, x20, x21, x22, x23, x24, x25, x26, x27, x28, x29, x30, x31, x32, x33, x34, x35, x36, x37, x38, x39, x40, x41, x42, x43, x44, x45, x46, x47, x48, x49, x50, x51, x52, x53, x54, x55, x56, x57, x58, x59, x60, x61, x62, x63, x64, x65, x66, x67, x68, x69, x70, x71, x72, x73, x74, x75, x76, x77, x78, x79, x80, x81, x82, x83, x84, x85, x86, x87, x88, x89, x90, x91, x92, x93, x94, x95, x96, x97, x98, x99, x100, x101, x102, x103, x104, x105, x106, x107, x108, x109, x110, x111, x112, .slice A k cA, x114, .string (mk how), x116, x117, x118, x119, .slice B m cB, x121, x122, x123, x124, x125, x126, x127, x128, x129, x130, x131, x132, x133, x134, x135, x136, x137, x138, x139, x140, x141, x142, x143, x144, x145, x146, x147, x148, x149, x150, x151, x152, x153, x154, x155, x156, x157, x158, x159, x160, x161, x162], []⟩ w := by
  refine wpAnyH_ready (rs := [0, 6]) (by kernel_rfl) (by simp) ?_
  obtain ⟨p0, f0, e0⟩ := o0
  refine AllReadyH.cons e0 (fun K hK => ?_) ?_
  · clear e0
    go_simp
    refine hK.out _ _ trivial (fun _ => ?_)
    clear hK K
    exact listed_as (by kernel_rfl) (r12_0z H hQ (w := w.alloc (.cells #[] 9)) (Lib.hid (below_on hb.out _)) (Lib.hid (heap_alloc_new _ _)) (Lib.hid hb.out.size) (Lib.hid (heap_keep hz.out _)) zB)
  obtain ⟨p6, f6, e6⟩ := o6
  refine AllReadyH.cons e6 (fun K hK => ?_) ?_
  · clear e6
    go_simp
    refine hK.out _ _ trivial (fun _ => ?_)
    clear hK K
    exact listed_as (by kernel_rfl) (r12_saz H hQ (w := w.alloc (.cells #[.string (mk how)] 9)) (Lib.hid (below_on hb.out _)) (Lib.hid (heap_alloc_new _ _)) (Lib.hid (heap_keep hz.out _)) zB)
  exact AllReadyH.nil

set_option maxRecDepth 100000 in
set_option maxHeartbeats 1000000 in
theorem r12_s {x0 x1 x2 x3 x4 x5 x6 x7 x8 x9 x10 x11 x12 x13 x14 x15 x16 x17 x18 x19 x20 x21 x22 x23 x24 x25 x26 x27 x28 x29 x30 x31 x32 x33 x34 x35 x36 x37 x38 x39 x40 x41 x42 x43 x44 x45 x46 x47 x48 x49 x50 x51 x52 x53 x54 x55 x56 x57 x58 x59 x60 x61 x62 x63 x64 x65 x66 x67 x68 x69 x70 x71 x72 x73 x74 x75 x76 x77 x78 x79 x80 x81 x82 x83 x84 x85 x86 x87 x88 x89 x90 x91 x92 x93 x94 x95 x96 x97 x98 x99 x100 x101 x102 x103 x104 x105 x106 x107 x108 x109 x110 x111 x112 x114 x116 x117 x118 x119 x121 x122 x123 x124 x125 x126 x127 x128 x129 x130 x131 x132 x133 x134 x135 x136 x137 x138 x139 x140 x141 x142 x143 x144 x145 x146 x147 x148 x149 x150 x151 x152 x153 x154 x155 x156 x157 x158 x159 x160 x161 x162 : Value} {wc : World} {how : Tx} {wa wb : List Tx} {A B : Option Addr} {k m cA cB : Nat} {WM : List Tx} {C : CmdT} {Q : Exit → Act → World → Prop} (H : R12 wc how wa wb A B k m cA cB WM C) (hQ : ∀ (y109 y110 y111 y112 y113 y114 y115 y116 y117 y118 y119 y120 y121 y122 y123 y124 y125 : Value) (z : Nat) (w' : World), CmdMem w' z wc.heap.size C → Below wc.heap.size wc w' → Q .normal ⟨#[x0, x1, x2, x3, x4, x5, x6, x7, x8, x9, x10, x11, x12, x13, .pointer (some ⟨z, 0, none⟩), .int .i64 (-1), .int .i64 0, x17, x18, x19, x20, x21, x22, x23, x24, x25, x26, x27, x28, x29, x30, x31, x32, x33, x34, x35, x36, x37, x38, x39, x40, x41, x42, x43, x44, x45, x46, x47, x48, x49, x50, x51, x52, x53, x54, x55, x56, x57, x58, x59, x60, x61, x62, x63, x64, x65, x66, x67, x68, x69, x70, x71, x72, x73, x74, x75, x76, x77, x78, x79, x80, x81, x82, x83, x84, x85, x86, x87, x88, x89, x90, x91, x92, x93, x94, x95, x96, x97, x98, x99, x100, x101, x102, x103, x104, x105, x106, x107, x108, y109, y110, y111, y112, y113, y114, y115, y116, y117, y118, y119, y120, y121, y122, y123, y124, y125, x126, x127, x128, x129, x130, x131, x132, x133, x134, x135, x136, x137, x138, x139, x140, x141, x142, x143, x144, x145, x146, x147, x148, x149, x150, x151, x152, x153, x154, x155, x156, x157, x158, x159, x160, x161, x162], []⟩ w') {w : World}  (hb : Hid (Below wc.heap.size wc w)) :
    wpAnyH Try.prog .any r12 (NoPanic Q) (fun _ => True) 14 #[false, true, true, true, false, true, false, false, true, true, true, false, false, false, false, false, false, false, false, false, false] ⟨#[x0, x1, x2, x3, x4, x5, x6, x7, x8, x9, x10, x11, x12, x13, x14, x15, x16, x17, x18, x19, x20, x21, x22, x23, x24, x25, x26, x27, x28, x29, x30, x31, x32, x33, x34, x35, x36, x37, x38, x39, x40, x41, x42, x43, x44, x45, x46, x47, x48, x49, x50, x51, x52, x53, x54, x55, x56, x57, x58, x59, x60, x61, x62, x63, x64, x65, x66, x67, x68, x69, x70, x71, x72, x73, x74, x75, x76, x77, x78, x79, x80, x81, x82, x83, x84, x85, x86, x87, x88, x89, x90, x91, x92, x93, x94, x95, x96, x97, x98, x99, x100, x101, x102, x103, x104, x105, x106, x107, x108, x109, x110, x111, x112, .slice A k cA, x114, .string (mk how), x116, x117, x118, x119, .slice B m cB, x121, x122, x123, x124, x125, x126, x127, x128, x129, x130, x131, x132, x133, x134, x135, x136, x137, x138, x139, x140, x141, x142, x143, x144, x145, x146, x147, x148, x149, x150, x151, x152, x153, x154, x155, x156, x157, x158, x159, x160, x161, x162], []⟩ w := by
  refine wpAnyH_ready (rs := [0, 6, 17]) (by kernel_rfl) (by simp) ?_
  obtain ⟨p0, f0, e0⟩ := o0
  refine AllReadyH.cons e0 (fun K hK => ?_) ?_
  · clear e0
    go_simp
    refine hK.out _ _ trivial (fun _ => ?_)
    clear hK K
    exact listed_as (by kernel_rfl) (r12_0 H hQ (w := w.alloc (.cells #[] 9)) (Lib.hid (below_on hb.out _)) (Lib.hid (heap_alloc_new _ _)) (Lib.hid hb.out.size))
  obtain ⟨p6, f6, e6⟩ := o6
  refine AllReadyH.cons e6 (fun K hK => ?_) ?_
  · clear e6
    go_simp
    refine hK.out _ _ trivial (fun _ => ?_)
    clear hK K
    exact listed_as (by kernel_rfl) (r12_sa H hQ (w := w.alloc (.cells #[.string (mk how)] 9)) (Lib.hid (below_on hb.out _)) (Lib.hid (heap_alloc_new _ _)))
  obtain ⟨p17, f17, e17⟩ := o17
  refine AllReadyH.cons e17 (fun K hK => ?_) ?_
  · clear e17
    go_simp
    refine hK.out _ _ trivial (fun _ => ?_)
    clear hK K
    exact listed_as (by kernel_rfl) (r12_sz H hQ (w := w.alloc (.cells #[.string ⟨#[]⟩, .string ⟨#[]⟩, .bool false, .bool false, .bool false, .slice none 0 0, .slice none 0 0, .slice none 0 0, .slice none 0 0, .bool false, .bool false] 73)) (Lib.hid (below_on hb.out _)) (Lib.hid (heap_alloc_new _ _)) (Lib.hid hb.out.size))
  exact AllReadyH.nil

set_option maxRecDepth 100000 in
set_option maxHeartbeats 2000000 in
theorem r12_start {x3 x4 x5 x6 x7 x8 x9 x10 x11 x12 x13 x14 x15 x16 x17 x18 x19 x20 x21 x22 x23 x24 x25 x26 x27 x28 x29 x30 x31 x32 x33 x34 x35 x36 x37 x38 x39 x40 x41 x42 x43 x44 x45 x46 x47 x48 x49 x50 x51 x52 x53 x54 x55 x56 x57 x58 x59 x60 x61 x62 x63 x64 x65 x66 x67 x68 x69 x70 x71 x72 x73 x74 x75 x76 x77 x78 x79 x80 x81 x82 x83 x84 x85 x86 x87 x88 x89 x90 x91 x92 x93 x94 x95 x96 x97 x98 x99 x100 x101 x102 x103 x104 x105 x106 x107 x108 x109 x110 x111 x112 x113 x114 x115 x116 x117 x118 x119 x120 x121 x122 x123 x124 x125 x126 x127 x128 x129 x130 x131 x132 x133 x134 x135 x136 x137 x138 x139 x140 x141 x142 x143 x144 x145 x146 x147 x148 x149 x150 x151 x152 x153 x154 x155 x156 x157 x158 x159 x160 x161 x162 : Value} {wc : World} {how : Tx} {wa wb : List Tx} {a1 : Option Addr} {n k c1 : Nat} {WM : List Tx} {C : CmdT} {Q : Exit → Act → World → Prop} (H : R12 wc how wa wb a1 (if c1 = k then a1 else Option.map (fun x => x.add k) a1) k (n - k) c1 (c1 - k) WM C) (hQ : ∀ (y109 y110 y111 y112 y113 y114 y115 y116 y117 y118 y119 y120 y121 y122 y123 y124 y125 : Value) (z : Nat) (w' : World), CmdMem w' z wc.heap.size C → Below wc.heap.size wc w' → Q .normal ⟨#[.slice a1 n c1, .string (mk how), .int .i64 k, x3, x4, x5, x6, x7, x8, x9, x10, x11, x12, x13, .pointer (some ⟨z, 0, none⟩), .int .i64 (-1), .int .i64 0, x17, x18, x19, x20, x21, x22, x23, x24, x25, x26, x27, x28, x29, x30, x31, x32, x33, x34, x35, x36, x37, x38, x39, x40, x41, x42, x43, x44, x45, x46, x47, x48, x49, x50, x51, x52, x53, x54, x55, x56, x57, x58, x59, x60, x61, x62, x63, x64, x65, x66, x67, x68, x69, x70, x71, x72, x73, x74, x75, x76, x77, x78, x79, x80, x81, x82, x83, x84, x85, x86, x87, x88, x89, x90, x91, x92, x93, x94, x95, x96, x97, x98, x99, x100, x101, x102, x103, x104, x105, x106, x107, x108, y109, y110, y111, y112, y113, y114, y115, y116, y117, y118, y119, y120, y121, y122, y123, y124, y125, x126, x127, x128, x129, x130, x131, x132, x133, x134, x135, x136, x137, x138, x139, x140, x141, x142, x143, x144, x145, x146, x147, x148, x149, x150, x151, x152, x153, x154, x155, x156, x157, x158, x159, x160, x161, x162], []⟩ w') (hk : k ≤ n) (hn : n ≤ c1) :
    wpAnyH Try.prog .any r12 (NoPanic Q) (fun _ => True) r12.size (Array.replicate r12.size false) ⟨#[.slice a1 n c1, .string (mk how), .int .i64 k, x3, x4, x5, x6, x7, x8, x9, x10, x11, x12, x13, x14, x15, x16, x17, x18, x19, x20, x21, x22, x23, x24, x25, x26, x27, x28, x29, x30, x31, x32, x33, x34, x35, x36, x37, x38, x39, x40, x41, x42, x43, x44, x45, x46, x47, x48, x49, x50, x51, x52, x53, x54, x55, x56, x57, x58, x59, x60, x61, x62, x63, x64, x65, x66, x67, x68, x69, x70, x71, x72, x73, x74, x75, x76, x77, x78, x79, x80, x81, x82, x83, x84, x85, x86, x87, x88, x89, x90, x91, x92, x93, x94, x95, x96, x97, x98, x99, x100, x101, x102, x103, x104, x105, x106, x107, x108, x109, x110, x111, x112, x113, x114, x115, x116, x117, x118, x119, x120, x121, x122, x123, x124, x125, x126, x127, x128, x129, x130, x131, x132, x133, x134, x135, x136, x137, x138, x139, x140, x141, x142, x143, x144, x145, x146, x147, x148, x149, x150, x151, x152, x153, x154, x155, x156, x157, x158, x159, x160, x161, x162], []⟩ wc.drew := by
  rw [r12_size]
  have hk0 : (0 : Int) ≤ (k : Int) := by omega
  have hki : (k : Int) ≤ (n : Int) := by omega
  have hic : (n : Int) ≤ (c1 : Int) := by omega
  have hkc : (k : Int) ≤ (c1 : Int) := by omega
  have hkn : k ≤ c1 := by omega
  obtain ⟨_p, _f, e1⟩ := o1
  refine wpAnyH_take (i := 1) (v := .slice a1 n c1) e1 (by kernel_rfl) (by kernel_rfl) (by kernel_rfl) (fun _ _ _ h => h) (Or.inl ⟨rfl, ?_⟩) trivial ?_
  · intro W' _
    clear e1
    go_simp
  simp only [Act.put, List.setIfInBounds_toArray, List.set_cons_zero, List.set_cons_succ]
  clear e1
  obtain ⟨_p, _f, e2⟩ := o2
  refine wpAnyH_take (i := 2) (v := .int .i64 k) e2 (by kernel_rfl) (by kernel_rfl) (by kernel_rfl) (fun _ _ _ h => h) (Or.inl ⟨rfl, ?_⟩) trivial ?_
  · intro W' _
    clear e2
    go_simp
  simp only [Act.put, List.setIfInBounds_toArray, List.set_cons_zero, List.set_cons_succ]
  clear e2
  obtain ⟨_p, _f, e3⟩ := o3
  refine wpAnyH_take (i := 3) (v := .slice a1 k c1) e3 (by kernel_rfl) (by kernel_rfl) (by kernel_rfl) (fun _ _ _ h => h) (Or.inl ⟨rfl, ?_⟩) trivial ?_
  · intro W' _
    clear e3
    go_simp
  simp only [Act.put, List.setIfInBounds_toArray, List.set_cons_zero, List.set_cons_succ]
  clear e3
  obtain ⟨_p, _f, e5⟩ := o5
  refine wpAnyH_take (i := 5) (v := .string (mk how)) e5 (by kernel_rfl) (by kernel_rfl) (by kernel_rfl) (fun _ _ _ h => h) (Or.inl ⟨rfl, ?_⟩) trivial ?_
  · intro W' _
    clear e5
    go_simp
  simp only [Act.put, List.setIfInBounds_toArray, List.set_cons_zero, List.set_cons_succ]
  clear e5
  obtain ⟨_p, _f, e8⟩ := o8
  refine wpAnyH_take (i := 8) (v := .slice a1 n c1) e8 (by kernel_rfl) (by kernel_rfl) (by kernel_rfl) (fun _ _ _ h => h) (Or.inl ⟨rfl, ?_⟩) trivial ?_
  · intro W' _
    clear e8
    go_simp
  simp only [Act.put, List.setIfInBounds_toArray, List.set_cons_zero, List.set_cons_succ]
  clear e8
  obtain ⟨_p, _f, e9⟩ := o9
  refine wpAnyH_take (i := 9) (v := .int .i64 k) e9 (by kernel_rfl) (by kernel_rfl) (by kernel_rfl) (fun _ _ _ h => h) (Or.inl ⟨rfl, ?_⟩) trivial ?_
  · intro W' _
    clear e9
    go_simp
  simp only [Act.put, List.setIfInBounds_toArray, List.set_cons_zero, List.set_cons_succ]
  clear e9
  obtain ⟨_p, _f, e10⟩ := o10
  refine wpAnyH_take (i := 10) (v := .slice (if c1 = k then a1 else Option.map (fun x => x.add k) a1) (n - k) (c1 - k)) e10 (by kernel_rfl) (by kernel_rfl) (by kernel_rfl) (fun _ _ _ h => h) (Or.inl ⟨rfl, ?_⟩) trivial ?_
  · intro W' _
    clear e10
    go_simp
  simp only [Act.put, List.setIfInBounds_toArray, List.set_cons_zero, List.set_cons_succ]
  clear e10
  exact listed_as (by kernel_rfl) (r12_s H hQ (Lib.hid (below_d0 _)))

end Go.Proofs.Ytmjggjccmbiheaa
